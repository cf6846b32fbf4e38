/- Texts G1, G2, G3, G4, G5, G6, G7, G8, G9. The package pending: nodes that know their own, as they lie. -/
import Derived.Test.YtelffdgcikceaaaGreatDoorXB4
import Derived.Lib.AppendZerosOnto
import Derived.Lib.SliceRun
import Derived.Lib.Overlaps
import Derived.LaidEqlPtr
set_option linter.unusedSimpArgs false
set_option linter.unusedVariables false
section
namespace Go.Proofs.YtelffdgcikceaaaGreatDoor
open Go.V
open Go.RowKit (Below)
structure PN where
 row:Nd
 up:Option Nat
 attrs:List Nat
 kids:List Nat
structure Fo where
 b:Nat→Nat
 va:Nat→Value
 vk:Nat→Value
def bN{α:Type}(f:Nat→α)(i:Nat)(v:α):Nat→α:=fun k=>if k=i then v else f k
theorem dD{α:Type}(f:Nat→α)(i:Nat)(v:α):bN f i v i=v:=if_pos rfl
theorem dS{α:Type}(f:Nat→α){i k:Nat}(v:α)(h:k≠i):bN f i v k=f k:=if_neg h
def fQ(b:Nat→Nat)(i:Nat):Value:=.pointer (some ⟨b i,0,none⟩)
def upV(b:Nat→Nat):Option Nat→Value
 | none=>.pointer none
 | some i=>fQ b i
def ptrs(b:Nat→Nat)(l:List Nat):List (List Value):=l.map fun i=>[fQ b i]
def PN.cells(b:Nat→Nat)(s:PN)(va vk:Value):List Value:=s.row.cells++[upV b s.up,va,vk]
theorem aW(b:Nat→Nat)(l:List Nat):(ptrs b l).length=l.length:=by simp[ptrs]
theorem jJ(b:Nat→Nat)(l m:List Nat):ptrs b (l++m)=ptrs b l++ptrs b m:=by simp[ptrs]
theorem lZ(b:Nat→Nat)(l:List Nat):∀y∈ptrs b l,y.length=1∧∀u∈y,u.oneCell'=true:=fun y hy=>by
 obtain⟨i,_,rfl⟩:=List.mem_map.1 hy
 exact⟨rfl,fun u hu=>by rw[List.mem_singleton.1 hu];rfl⟩
theorem pK{b b':Nat→Nat}{l:List Nat}(h:∀i∈l,b i=b' i):ptrs b l=ptrs b' l:=by
 unfold ptrs
 exact List.map_congr_left fun i hi=>by simp[fQ,h i hi]
def fK(own:Nat→Nat)(v:Value)(tag:Nat):Prop:=∀g,v.ownBlock=some g→own g=tag
structure NodeB(w:World)(B:Nat)(own:Nat→Nat)(fo:Fo)(i:Nat)(s:PN):Prop where
 blk:bQ w (fo.b i) (s.cells fo.b (fo.va i) (fo.vk i)) 145
 ge:B≤fo.b i
 tag:own (fo.b i)=3*i+1
structure NodeV(w:World)(B:Nat)(own:Nat→Nat)(fo:Fo)(i:Nat)(s:PN):Prop where
 va:Vec w B 94 1 (fo.va i) (ptrs fo.b s.attrs)
 vk:Vec w B 94 1 (fo.vk i) (ptrs fo.b s.kids)
 ta:fK own (fo.va i) (3*i+2)
 tk:fK own (fo.vk i) (3*i+3)
structure FoX(w:World)(B:Nat)(own:Nat→Nat)(fo:Fo)(S:List PN)(x:Nat):Prop where
 fresh:∀k,w.heap.size≤k→own k=0
 bound:∀k,own k≤3*S.length
 nb:∀i s,S[i]? = some s→NodeB w B own fo i s
 nv:∀i s,S[i]? = some s→i≠x→NodeV w B own fo i s
structure iY(w:World)(B:Nat)(own:Nat→Nat)(fo:Fo)(S:List PN):Prop where
 fresh:∀k,w.heap.size≤k→own k=0
 bound:∀k,own k≤3*S.length
 nb:∀i s,S[i]? = some s→NodeB w B own fo i s
 nv:∀i s,S[i]? = some s→NodeV w B own fo i s
theorem iY.x{w:World}{B:Nat}{own:Nat→Nat}{fo:Fo}{S:List PN}(h:iY w B own fo S)(x:Nat):FoX w B own fo S x:=⟨h.fresh,h.bound,h.nb,fun i s hs _=>h.nv i s hs⟩
theorem FoX.ch{M:Nat→Prop}{w w':World}{B:Nat}{own:Nat→Nat}{fo:Fo}{S:List PN}{x:Nat}(h:FoX w B own fo S x)(hC:Ch M w w')(hM:∀k,k<w.heap.size→M k→own k=0∨own k=3*x+2∨own k=3*x+3):FoX w' B own fo S x:=by
 refine⟨fun k hk=>h.fresh k (Nat.le_trans hC.size hk),h.bound,fun i s hs=>?_,fun i s hs hix=>?_⟩
 ·obtain⟨h1,h2,h3⟩:=h.nb i s hs
  refine⟨hC.blk h1 (fun hm=>?_),h2,h3⟩
  have:=hM _ h1.lt hm
  omega
 ·obtain⟨h1,h2,h3,h4⟩:=h.nv i s hs hix
  refine⟨hC.vec h1 (fun g hg hm=>?_),hC.vec h2 (fun g hg hm=>?_),h3,h4⟩
  ·have:=hM g (h1.ge hg).2 hm
   have:=h3 g hg
   omega
  ·have:=hM g (h2.ge hg).2 hm
   have:=h4 g hg
   omega
theorem iY.ch{M:Nat→Prop}{w w':World}{B:Nat}{own:Nat→Nat}{fo:Fo}{S:List PN}(h:iY w B own fo S)(hC:Ch M w w')(hM:∀k,k<w.heap.size→M k→own k=0):iY w' B own fo S:=by
 refine⟨fun k hk=>h.fresh k (Nat.le_trans hC.size hk),h.bound,fun i s hs=>?_,fun i s hs=>?_⟩
 ·obtain⟨h1,h2,h3⟩:=h.nb i s hs
  refine⟨hC.blk h1 (fun hm=>?_),h2,h3⟩
  have:=hM _ h1.lt hm
  omega
 ·obtain⟨h1,h2,h3,h4⟩:=h.nv i s hs
  refine⟨hC.vec h1 (fun g hg hm=>?_),hC.vec h2 (fun g hg hm=>?_),h3,h4⟩
  ·have:=hM g (h1.ge hg).2 hm
   have:=h3 g hg
   omega
  ·have:=hM g (h2.ge hg).2 hm
   have:=h4 g hg
   omega
theorem iY.ext{w w':World}{B:Nat}{own:Nat→Nat}{fo:Fo}{S:List PN}(h:iY w B own fo S)(hE:Ext w w'):iY w' B own fo S:=
 h.ch (M:=fun _=>False) (.aL hE) (fun _ _ h=>h.elim)
theorem FoX.put{w w':World}{B:Nat}{own own':Nat→Nat}{fo:Fo}{S:List PN}{x:Nat}{s s':PN}{cs:List Value}(h:FoX w B own fo S x)(hx:S[x]? = some s)(hU:mK w (fo.b x) cs 145 w')(va' vk':Value)
  (hcs:cs=s'.cells fo.b va' vk') (hown:∀k,own k≠0→own k≠3*x+2→own k≠3*x+3→own' k=own k) (hfr:∀k,w.heap.size≤k→own' k=0) (hbd:∀k,own' k≤3*S.length)
  (hva:Vec w B 94 1 va' (ptrs fo.b s'.attrs)) (hvk:Vec w B 94 1 vk' (ptrs fo.b s'.kids)) (hta:fK own' va' (3*x+2)) (htk:fK own' vk' (3*x+3)) (hob:own (fo.b x)=3*x+1) :
  iY w' B own' { fo with va:=bN fo.va x va',vk:=bN fo.vk x vk' } (S.set x s'):=by
 have hxl:=(List.getElem?_eq_some_iff.1 hx).1
 have hC:Ch (fun k=>k=fo.b x) w w':=.bG hU rfl
 have own'x:own' (fo.b x)=3*x+1:=by rw[hown (fo.b x) (by omega) (by omega) (by omega),hob]
 have hvne:∀{v:Value} {t:Nat},fK own' v t→t≠3*x+1→∀g,v.ownBlock=some g→¬g=fo.b x:=fun hs ht g hg e=>by
  have:=hs g hg
  rw[e,own'x]at this
  omega
 refine⟨fun k hk=>hfr k (Nat.le_trans hC.size hk),fun k=>by rw[List.length_set];exact hbd k,fun i si hi=>?_,fun i si hi=>?_⟩
 ·rw[List.getElem?_set]at hi
  by_cases e:x=i
  ·subst e
   rw[if_pos rfl,if_pos hxl]at hi
   cases hi
   refine⟨?_,(h.nb x s hx).ge,own'x⟩
   simp only[dD]
   rw[←hcs]
   exact hU.blk
  ·rw[if_neg e]at hi
   obtain⟨h1,h2,h3⟩:=h.nb i si hi
   have hne:fo.b i≠fo.b x:=fun e2=>by rw[e2,hob]at h3;omega
   refine⟨?_,h2,by rw[hown (fo.b i) (by omega) (by omega) (by omega),h3]⟩
   simp only[dS _ _ (Ne.symm e)]
   exact hC.blk h1 hne
 ·rw[List.getElem?_set]at hi
  by_cases e:x=i
  ·subst e
   rw[if_pos rfl,if_pos hxl]at hi
   cases hi
   refine⟨?_,?_,?_,?_⟩
   ·simp only[dD];exact hC.vec hva (hvne hta (by omega))
   ·simp only[dD];exact hC.vec hvk (hvne htk (by omega))
   ·simp only[dD];exact hta
   ·simp only[dD];exact htk
  ·rw[if_neg e]at hi
   obtain⟨h1,h2,h3,h4⟩:=h.nv i si hi (Ne.symm e)
   have t1:fK own' (fo.va i) (3*i+2):=fun g hg=>by have:=h3 g hg;rw[hown g (by omega) (by omega) (by omega),this]
   have t2:fK own' (fo.vk i) (3*i+3):=fun g hg=>by have:=h4 g hg;rw[hown g (by omega) (by omega) (by omega),this]
   refine⟨?_,?_,?_,?_⟩
   ·simp only[dS _ _ (Ne.symm e)];exact hC.vec h1 (hvne t1 (by omega))
   ·simp only[dS _ _ (Ne.symm e)];exact hC.vec h2 (hvne t2 (by omega))
   ·simp only[dS _ _ (Ne.symm e)];exact t1
   ·simp only[dS _ _ (Ne.symm e)];exact t2
theorem iY.put{w w':World}{B:Nat}{own:Nat→Nat}{fo:Fo}{S:List PN}{x:Nat}{s s':PN}{cs:List Value}(h:iY w B own fo S)(hx:S[x]? = some s)(hU:mK w (fo.b x) cs 145 w')
  (hcs:cs=s'.cells fo.b (fo.va x) (fo.vk x)) (ha:s'.attrs=s.attrs) (hk:s'.kids=s.kids):iY w' B own fo (S.set x s'):=by
 obtain⟨h1,h2,h3,h4⟩:=h.nv x s hx
 have:=(h.x x).put hx hU (fo.va x) (fo.vk x) hcs (fun _ _ _ _=>rfl) h.fresh h.bound (by rw[ha];exact h1) (by rw[hk];exact h2) h3 h4 (h.nb x s hx).tag
 have e1:bN fo.va x (fo.va x)=fo.va:=by funext k;by_cases e:k=x<;>simp[bN,e]
 have e2:bN fo.vk x (fo.vk x)=fo.vk:=by funext k;by_cases e:k=x<;>simp[bN,e]
 rw[e1,e2]at this
 exact this
structure Named(S:List PN):Prop where
 up:∀(i:Nat) (s:PN),S[i]? = some s→∀u,s.up=some u→u<S.length
 at_:∀(i:Nat) (s:PN),S[i]? = some s→(∀j∈s.attrs,j<S.length)∧∀j∈s.kids,j<S.length
theorem iY.add{w w':World}{B b:Nat}{own:Nat→Nat}{fo:Fo}{S:List PN}{r:Nd}(h:iY w B own fo S)(hN:Named S)(hn:bO w b (PN.cells fo.b ⟨r,none,[],[]⟩ (.slice none 0 0) (.slice none 0 0)) 145 w')(hB:B≤w.heap.size) :
  iY w' B (bN own b (3*S.length+1)) ⟨bN fo.b S.length b,bN fo.va S.length (.slice none 0 0),bN fo.vk S.length (.slice none 0 0)⟩ (S++[⟨r,none,[],[]⟩]):=by
 have hb:=hn.b_eq
 have hsz:=hn.sz
 have hob:own b=0:=h.fresh b (by omega)
 have hupV:∀(s:PN) (i:Nat),S[i]? = some s→upV (bN fo.b S.length b) s.up=upV fo.b s.up:=fun s i hi=>by
  cases hu:s.up with
  | none=>rfl
  | some u=>
    have:=hN.up i s hi u hu
    simp only[upV,fQ,dS _ _ (show u≠S.length by omega)]
 have hcell:∀(s:PN) (i:Nat) (va vk:Value),S[i]? = some s→s.cells (bN fo.b S.length b) va vk=s.cells fo.b va vk:=fun s i va vk hi=>by
  simp only[PN.cells,hupV s i hi]
 refine⟨fun k hk=>?_,fun k=>?_,fun i s hi=>?_,fun i s hi=>?_⟩
 ·rw[dS _ _ (by omega)]
  exact h.fresh k (by omega)
 ·simp only[List.length_append,List.length_cons,List.length_nil]
  by_cases e:k=b
  ·rw[e,dD];omega
  ·rw[dS _ _ e];have:=h.bound k;omega
 ·rw[List.getElem?_append]at hi
  split at hi
  ·rename_i hil
   obtain⟨h1,h2,h3⟩:=h.nb i s hi
   have hlt:=h1.lt
   refine⟨?_,?_,?_⟩
   ·simp only[dS _ _ (show i≠S.length by omega)]
    rw[hcell s i _ _ hi]
    exact h1.ext hn.ext
   ·simp only[dS _ _ (show i≠S.length by omega)];exact h2
   ·simp only[dS _ _ (show i≠S.length by omega)]
    rw[dS _ _ (by omega)];exact h3
  ·rename_i hil
   obtain⟨e,rfl⟩:i=S.length∧s=⟨r,none,[],[]⟩:=by
    have hz:i-S.length=0:=by
     rcases Nat.eq_zero_or_pos (i-S.length)with h|h
     ·exact h
     ·rw[List.getElem?_eq_none (by simp;omega)]at hi;cases hi
    rw[hz]at hi
    simp at hi
    exact⟨by omega,hi.symm⟩
   subst e
   refine⟨?_,?_,?_⟩
   ·simp only[dD]
    exact hn.blk
   ·simp only[dD];omega
   ·simp only[dD]
 ·rw[List.getElem?_append]at hi
  split at hi
  ·rename_i hil
   obtain⟨h1,h2,h3,h4⟩:=h.nv i s hi
   have hA:=hN.at_ i s hi
   have e1:ptrs (bN fo.b S.length b) s.attrs=ptrs fo.b s.attrs:=pK fun j hj=>by
    have:=hA.1 j hj
    exact dS _ _ (by omega)
   have e2:ptrs (bN fo.b S.length b) s.kids=ptrs fo.b s.kids:=pK fun j hj=>by
    have:=hA.2 j hj
    exact dS _ _ (by omega)
   refine⟨?_,?_,?_,?_⟩
   ·simp only[dS _ _ (show i≠S.length by omega)];rw[e1];exact h1.ext hn.ext
   ·simp only[dS _ _ (show i≠S.length by omega)];rw[e2];exact h2.ext hn.ext
   ·simp only[dS _ _ (show i≠S.length by omega)]
    intro g hg
    rw[dS _ _ (by have:=(h1.ge hg).2;omega)]
    exact h3 g hg
   ·simp only[dS _ _ (show i≠S.length by omega)]
    intro g hg
    rw[dS _ _ (by have:=(h2.ge hg).2;omega)]
    exact h4 g hg
  ·rename_i hil
   obtain⟨e,rfl⟩:i=S.length∧s=⟨r,none,[],[]⟩:=by
    have hz:i-S.length=0:=by
     rcases Nat.eq_zero_or_pos (i-S.length)with h|h
     ·exact h
     ·rw[List.getElem?_eq_none (by simp;omega)]at hi;cases hi
    rw[hz]at hi
    simp at hi
    exact⟨by omega,hi.symm⟩
   subst e
   refine⟨?_,?_,?_,?_⟩
   ·simp only[dD];exact Vec.nil _ _ _ _
   ·simp only[dD];exact Vec.nil _ _ _ _
   ·simp only[dD];intro g hg;cases hg
   ·simp only[dD];intro g hg;cases hg
structure oO where
 S:List PN
 at_:List Nat
 kd:List Nat
def mD(s:PN)(j:Nat):PN:={ s with attrs:=s.attrs++[j] }
def oD(s:PN)(j:Nat):PN:={ s with kids:=s.kids++[j] }
def cK(n0:Nat)(st:oO)(n:Nd):oO:=
 let j:=st.S.length
 if 0≤n.parent then
  let u:=n0+n.parent.toNat
  let S1:=st.S++[⟨n,some u,[],[]⟩]
  match S1[u]? with
  | some s=>⟨S1.set u (if n.kind=3 then mD s j else oD s j),st.at_,st.kd⟩
  | none=>⟨S1,st.at_,st.kd⟩
 else
  let S1:=st.S++[⟨n,none,[],[]⟩]
  if n.kind=3 then⟨S1,st.at_++[j],st.kd⟩else⟨S1,st.at_,st.kd++[j]⟩
def fF(n0:Nat)(st:oO)(l:List Nd):oO:=l.foldl (cK n0) st
def dI(S:List PN)(l:List Nd):oO:=fF S.length ⟨S,[],[]⟩ l
theorem iH:lG Tryz.prog 91 94 1 8:=by
 obtain⟨i,h1,h2,h3,h4⟩:=nW (t:=94) (z:=.pointer none) (m:=1) (b:=8) (by kernel_rfl)
 exact⟨Tryz.underlying91,⟨i,_,h1,h2,h3,h4,rfl⟩,by decide⟩
theorem run_build145(k:Int)(n v:ByteArray)(p:Int)(w:World):(Instr.build 145 #[(0,.agg #[.int .u8 k,.string n,.string v,.int .i64 p])]).run Tryz.prog w=.ok (.agg #[.int .u8 k,.string n,.string v,.int .i64 p,.pointer none,.slice none 0 0,.slice none 0 0]) w:=by kernel_rfl
theorem kI(a:Option Addr)(w:World):(Instr.buildSlice 91 1 #[(0,.pointer a)]).run Tryz.prog w=.ok (.slice (some ⟨w.heap.size,0,none⟩) 1 1) (w.alloc (.cells #[.pointer a] 94)):=by kernel_rfl
theorem zero91:fJ Tryz.prog 91 (.slice none 0 0):=by unfold fJ;kernel_rfl
theorem jW(n0:Nat)(st:oO)(n:Nd):(cK n0 st n).S.length=st.S.length+1:=by
 unfold cK
 simp only
 split
 ·split<;>simp
 ·split<;>simp
theorem wU(n0:Nat)(st:oO)(l:List Nd)(n:Nd):fF n0 st (l++[n])=cK n0 (fF n0 st l) n:=by simp[fF]
theorem apRun_len(n0:Nat)(st:oO):∀l:List Nd,(fF n0 st l).S.length=st.S.length+l.length:=by
 intro l
 induction l generalizing st with
 | nil=>rfl
 | cons n r ih=>
   have:=ih (cK n0 st n)
   rw[jW]at this
   show(fF n0 (cK n0 st n) r).S.length=_
   rw[this];simp;omega
structure ApOk(n0:Nat)(st:oO):Prop where
 named:Named st.S
 le:n0≤st.S.length
 at_:∀j∈st.at_,n0≤j∧j<st.S.length
 kd:∀j∈st.kd,n0≤j∧j<st.S.length
theorem named_snoc{S:List PN}(h:Named S){s:PN}(hu:∀u,s.up=some u→u<S.length+1)(ha:s.attrs=[])(hk:s.kids=[]):Named (S++[s]):=by
 refine⟨fun i t hi u hu'=>?_,fun i t hi=>?_⟩
 ·rw[List.getElem?_append]at hi
  simp only[List.length_append,List.length_cons,List.length_nil]
  split at hi
  ·have:=h.up i t hi u hu';omega
  ·rename_i hil
   have hz:i-S.length=0:=by
    rcases Nat.eq_zero_or_pos (i-S.length)with h|h
    ·exact h
    ·rw[List.getElem?_eq_none (by simp;omega)]at hi;cases hi
   rw[hz]at hi
   simp at hi
   subst hi
   have:=hu u hu';omega
 ·rw[List.getElem?_append]at hi
  simp only[List.length_append,List.length_cons,List.length_nil]
  split at hi
  ·have:=h.at_ i t hi
   exact⟨fun j hj=>by have:=this.1 j hj;omega,fun j hj=>by have:=this.2 j hj;omega⟩
  ·rename_i hil
   have hz:i-S.length=0:=by
    rcases Nat.eq_zero_or_pos (i-S.length)with h|h
    ·exact h
    ·rw[List.getElem?_eq_none (by simp;omega)]at hi;cases hi
   rw[hz]at hi
   simp at hi
   subst hi
   rw[ha,hk]
   simp
theorem named_set{S:List PN}(h:Named S){x:Nat}{s':PN}(hu:∀u,s'.up=some u→u<S.length)(ha:∀j∈s'.attrs,j<S.length)(hk:∀j∈s'.kids,j<S.length):Named (S.set x s'):=by
 refine⟨fun i t hi u hu'=>?_,fun i t hi=>?_⟩
 ·rw[List.getElem?_set]at hi
  rw[List.length_set]
  split at hi
  ·split at hi
   ·cases hi;exact hu u hu'
   ·cases hi
  ·exact h.up i t hi u hu'
 ·rw[List.getElem?_set]at hi
  rw[List.length_set]
  split at hi
  ·split at hi
   ·cases hi;exact⟨ha,hk⟩
   ·cases hi
  ·exact h.at_ i t hi
theorem apStep_ok{n0:Nat}{st:oO}(h:ApOk n0 st)(n:Nd)(hp:0≤n.parent→n0+n.parent.toNat<st.S.length):ApOk n0 (cK n0 st n):=by
 have hle:=h.le
 unfold cK
 simp only
 split
 ·rename_i h0
  have hu:=hp h0
  have hN1:Named (st.S++[⟨n,some (n0+n.parent.toNat),[],[]⟩]):=named_snoc h.named (fun u e=>by cases e;omega) rfl rfl
  split
  ·rename_i s hs
   have hsn:=hN1.at_ _ _ hs
   have hsu:=hN1.up _ _ hs
   simp only[List.length_append,List.length_cons,List.length_nil]at hsn hsu
   refine⟨?_,by simp;omega,fun j hj=>?_,fun j hj=>?_⟩
   ·refine named_set hN1 ?_ ?_ ?_
    ·intro u e
     simp only[List.length_append,List.length_cons,List.length_nil]
     split at e<;>exact hsu u e
    ·intro j hj
     simp only[List.length_append,List.length_cons,List.length_nil]
     split at hj
     ·rcases List.mem_append.1 hj with h1|h1
      ·exact hsn.1 j h1
      ·rw[List.mem_singleton.1 h1];omega
     ·exact hsn.1 j hj
    ·intro j hj
     simp only[List.length_append,List.length_cons,List.length_nil]
     split at hj
     ·exact hsn.2 j hj
     ·rcases List.mem_append.1 hj with h1|h1
      ·exact hsn.2 j h1
      ·rw[List.mem_singleton.1 h1];omega
   ·have:=h.at_ j hj;simp;omega
   ·have:=h.kd j hj;simp;omega
  ·refine⟨hN1,by simp;omega,fun j hj=>?_,fun j hj=>?_⟩
   ·have:=h.at_ j hj;simp;omega
   ·have:=h.kd j hj;simp;omega
 ·have hN1:Named (st.S++[⟨n,none,[],[]⟩]):=named_snoc h.named (fun u e=>by cases e) rfl rfl
  split
  ·refine⟨hN1,by simp;omega,fun j hj=>?_,fun j hj=>?_⟩
   ·simp only[List.length_append,List.length_cons,List.length_nil]
    rcases List.mem_append.1 hj with h1|h1
    ·have:=h.at_ j h1;omega
    ·rw[List.mem_singleton.1 h1];omega
   ·have:=h.kd j hj;simp;omega
  ·refine⟨hN1,by simp;omega,fun j hj=>?_,fun j hj=>?_⟩
   ·have:=h.at_ j hj;simp;omega
   ·simp only[List.length_append,List.length_cons,List.length_nil]
    rcases List.mem_append.1 hj with h1|h1
    ·have:=h.kd j h1;omega
    ·rw[List.mem_singleton.1 h1];omega
structure ApBd(n0 k:Nat)(st:oO):Prop where
 at_:st.at_.length≤k
 kd:st.kd.length≤k
 nd:∀(i:Nat) (s:PN),n0≤i→st.S[i]? = some s→s.attrs.length≤k∧s.kids.length≤k
theorem apStep_bd{n0 k:Nat}{st:oO}(h:ApBd n0 k st)(n:Nd)(hle:n0≤st.S.length):ApBd n0 (k+1) (cK n0 st n):=by
 have key:∀(s0:PN),s0.attrs=[]→s0.kids=[]→∀(i:Nat) (s:PN),n0≤i→(st.S++[s0])[i]? = some s→s.attrs.length≤k∧s.kids.length≤k:=fun s0 e1 e2 i s hi hs=>by
  rw[List.getElem?_append]at hs
  split at hs
  ·exact h.nd i s hi hs
  ·rename_i hil
   have hz:i-st.S.length=0:=by
    rcases Nat.eq_zero_or_pos (i-st.S.length)with h|h
    ·exact h
    ·rw[List.getElem?_eq_none (by simp;omega)]at hs;cases hs
   rw[hz]at hs
   simp at hs
   subst hs
   rw[e1,e2];simp
 have ha:=h.at_
 have hk:=h.kd
 unfold cK
 simp only
 split
 ·have key1:=key ⟨n,some (n0+n.parent.toNat),[],[]⟩ rfl rfl
  split
  ·rename_i s hs
   refine⟨Nat.le_succ_of_le ha,Nat.le_succ_of_le hk,fun i t hi ht=>?_⟩
   rw[List.getElem?_set]at ht
   split at ht
   ·rename_i hui
    have:=key1 _ s (by omega) hs
    split at ht
    ·cases ht
     split
     ·simp only[mD,List.length_append,List.length_cons,List.length_nil];omega
     ·simp only[oD,List.length_append,List.length_cons,List.length_nil];omega
    ·cases ht
   ·have:=key1 i t hi ht;omega
  ·refine⟨Nat.le_succ_of_le ha,Nat.le_succ_of_le hk,fun i t hi ht=>?_⟩
   have:=key1 i t hi ht;omega
 ·have key1:=key ⟨n,none,[],[]⟩ rfl rfl
  split
  ·refine⟨by simp;omega,Nat.le_succ_of_le hk,fun i t hi ht=>?_⟩
   have:=key1 i t hi ht;omega
  ·refine⟨Nat.le_succ_of_le ha,by simp;omega,fun i t hi ht=>?_⟩
   have:=key1 i t hi ht;omega
def retag(own:Nat→Nat)(v:Value)(t:Nat):Nat→Nat:=match v.ownBlock with
 | some g=>bN own g t
 | none=>own
theorem vR(own:Nat→Nat)(v:Value)(t:Nat):fK (retag own v t) v t:=fun g hg=>by
 unfold retag
 rw[hg]
 exact dD _ _ _
theorem dY{own:Nat→Nat}{v:Value}{t k:Nat}(h:∀g,v.ownBlock=some g→k≠g):retag own v t k=own k:=by
 unfold retag
 cases hv:v.ownBlock with
 | none=>rfl
 | some g=>exact dS _ _ (h g hv)
theorem yP{own:Nat→Nat}{v:Value}{t n:Nat}(h:∀k,own k≤n)(ht:t≤n)(k:Nat):retag own v t k≤n:=by
 unfold retag
 cases v.ownBlock with
 | none=>exact h k
 | some g=>
   by_cases e:k=g
   ·simp only[e,dD];exact ht
   ·simp only[dS _ _ e];exact h k
theorem updF_self{α:Type}(f:Nat→α)(x:Nat):bN f x (f x)=f:=by
 funext k
 by_cases e:k=x<;>simp[bN,e]
theorem FoX.setAttrs{w w':World}{B:Nat}{own:Nat→Nat}{fo:Fo}{S:List PN}{x:Nat}{s:PN}(h:FoX w B own fo S x)(hx:S[x]? = some s){va':Value}{l:List Nat}{cs:List Value}(hU:mK w (fo.b x) cs 145 w')
  (hcs:cs=PN.cells fo.b { s with attrs:=l } va' (fo.vk x)) (hva:Vec w B 94 1 va' (ptrs fo.b l)) (hta:∀g,va'.ownBlock=some g→own g=0∨own g=3*x+2) (hvk:Vec w B 94 1 (fo.vk x) (ptrs fo.b s.kids)) (htk:fK own (fo.vk x) (3*x+3)) :
  iY w' B (retag own va' (3*x+2)) { fo with va:=bN fo.va x va' } (S.set x { s with attrs:=l }):=by
 have hb:=h.nb x s hx
 have:=h.put (own':=retag own va' (3*x+2)) (s':={ s with attrs:=l }) hx hU va' (fo.vk x) hcs (fun k h1 h2 h3=>dY (fun g hg e=>by have:=hta g hg;rw[←e]at this;omega)) (fun k hk=>by
   rw[dY (fun g hg e=>by have:=(hva.ge hg).2;omega)]
   exact h.fresh k hk) (yP h.bound (by have:=(List.getElem?_eq_some_iff.1 hx).1;omega)) hva hvk (vR _ _ _) (fun g hg=>by
   rw[dY (fun g' hg' e=>by have:=hta g' hg';have:=htk g hg;rw[e]at this;omega)]
   exact htk g hg) hb.tag
 rw[updF_self]at this
 exact this
theorem FoX.setKids{w w':World}{B:Nat}{own:Nat→Nat}{fo:Fo}{S:List PN}{x:Nat}{s:PN}(h:FoX w B own fo S x)(hx:S[x]? = some s){vk':Value}{l:List Nat}{cs:List Value}(hU:mK w (fo.b x) cs 145 w')
  (hcs:cs=PN.cells fo.b { s with kids:=l } (fo.va x) vk') (hvk:Vec w B 94 1 vk' (ptrs fo.b l)) (htk:∀g,vk'.ownBlock=some g→own g=0∨own g=3*x+3) (hva:Vec w B 94 1 (fo.va x) (ptrs fo.b s.attrs)) (hta:fK own (fo.va x) (3*x+2)) :
  iY w' B (retag own vk' (3*x+3)) { fo with vk:=bN fo.vk x vk' } (S.set x { s with kids:=l }):=by
 have hb:=h.nb x s hx
 have:=h.put (own':=retag own vk' (3*x+3)) (s':={ s with kids:=l }) hx hU (fo.va x) vk' hcs (fun k h1 h2 h3=>dY (fun g hg e=>by have:=htk g hg;rw[←e]at this;omega)) (fun k hk=>by
   rw[dY (fun g hg e=>by have:=(hvk.ge hg).2;omega)]
   exact h.fresh k hk) (yP h.bound (by have:=(List.getElem?_eq_some_iff.1 hx).1;omega)) hva hvk (fun g hg=>by
   rw[dY (fun g' hg' e=>by have:=htk g' hg';have:=hta g hg;rw[e]at this;omega)]
   exact hta g hg) (vR _ _ _) hb.tag
 rw[updF_self]at this
 exact this
structure Apart(w w':World)(B:Nat)(own own':Nat→Nat)(fo fo':Fo)(n0:Nat)(st:oO)(k:Nat)(vall vat vkd:Value):Prop where
 ext:Ext w w'
 foat:iY w' B own' fo' st.S
 ok:ApOk n0 st
 len:st.S.length=n0+k
 same:∀i<n0,fo'.b i=fo.b i
 own:∀g<w.heap.size,own' g=own g
 all:Vec w' w.heap.size 94 1 vall (ptrs fo'.b ((List.range k).map (n0+·)))
 at_:Vec w' w.heap.size 94 1 vat (ptrs fo'.b st.at_)
 kd:Vec w' w.heap.size 94 1 vkd (ptrs fo'.b st.kd)
 ta:fK own' vall 0
 tt:fK own' vat 0
 tk:fK own' vkd 0
 d1:∀g,vall.ownBlock=some g→vat.ownBlock≠some g∧vkd.ownBlock≠some g
 d2:∀g,vat.ownBlock=some g→vkd.ownBlock≠some g
set_option maxHeartbeats 3200000 in
theorem apart_con(v:Value)(l:List Nd)(w:World)(B:Nat)(own:Nat→Nat)(fo:Fo)(S:List PN)(hl:aJ w v l)(hf:iY w B own fo S)(hN:Named S)(hB:B≤w.heap.size)
  (hpar:∀(i:Nat) (h:i<l.length),(l[i]).parent<i) :
  bV Tryz.prog 55 #[v] w (fun v' w'=>∃own' fo' vall vat vkd,v'=.tuple #[vall,vat,vkd]∧Apart w w' B own own' fo fo' S.length (dI S l) l.length vall vat vkd):=by
 have hle:=hl.len
 have hwf:=hl.wf
 obtain⟨o,c,rfl,h1,h2,h3,h4⟩:=hl.open_
 have hml:maxLen=9223372036854775807:=rfl
 refine enter aB Tryz.func55 (aV rfl) rfl rfl rfl ?_
 refine aG.alloc _ [.slice none 0 0] zero91 rfl fun b3 w1 n1=>?_
 refine aG.alloc _ [.slice none 0 0] zero91 rfl fun b4 w2 n2=>?_
 have eb3:=n1.b_eq
 have eb4:=n2.b_eq
 have s1:=n1.sz
 have s2:=n2.sz
 have hE2:=n1.ext.trans n2.ext
 refine aH.mk (X:=Nat × (Nat→Nat) × Fo × Value × Value × Value) (fun x=>[(2,x.2.2.2.1),(3,.pointer (some ⟨b3,0,none⟩)),(4,.pointer (some ⟨b4,0,none⟩)),(10,.slice o l.length c),(11,.int .i64 l.length),(12,.int .i64 x.1)])
  (fun x w'=>x.1≤l.length∧Apart w w' B own x.2.1 fo x.2.2.1 S.length (fF S.length ⟨S,[],[]⟩ (l.take x.1)) x.1 x.2.2.2.1 x.2.2.2.2.1 x.2.2.2.2.2∧ApBd S.length x.1 (fF S.length ⟨S,[],[]⟩ (l.take x.1))∧bQ w' b3 [x.2.2.2.2.1] 91∧bQ w' b4 [x.2.2.2.2.2] 91∧x.2.1 b3=0∧x.2.1 b4=0∧
   (∀g,(x.2.2.2.1.ownBlock=some g∨x.2.2.2.2.1.ownBlock=some g∨x.2.2.2.2.2.ownBlock=some g)→g≠b3∧g≠b4)) (fun x=>l.length-x.1) (0,own,fo,.slice none 0 0,.slice none 0 0,.slice none 0 0)
  ⟨Nat.zero_le _,⟨hE2,hf.ext hE2,⟨hN,Nat.le_refl _,by simp[fF],by simp[fF]⟩,rfl,fun _ _=>rfl,fun _ _=>rfl,Vec.nil _ _ _ _,Vec.nil _ _ _ _,Vec.nil _ _ _ _,(fun g h=>by cases h),(fun g h=>by cases h),(fun g h=>by cases h),(fun g h=>by cases h),(fun g h=>by cases h)⟩,
   ⟨by simp[fF],by simp[fF],fun i s hi hs=>by
    have:=(List.getElem?_eq_some_iff.1 hs).1
    simp[fF]at this
    omega⟩,n1.blk.ext n2.ext,n2.blk,hf.fresh b3 (by omega),hf.fresh b4 (by omega),fun g h=>by rcases h with h|h|h<;>cases h⟩ ⟨rfl,rfl,rfl,rfl,rfl,rfl,trivial⟩ ?_
 rintro⟨k,own1,fo1,vall,vat,vkd⟩ w3 ⟨hk,hA,hBd,hb3,hb4,ho3,ho4,hd34⟩
 simp only at hk hA hBd hb3 hb4 ho3 ho4 hd34 ⊢
 refine Cond.dec (fun g1=>?_) (fun g1=>?_)
 rotate_left
 ·have hkl:k=l.length:=by omega
  rw[hkl,List.take_length]at hA
  have hEd:=Ext.drew w3
  have hb3d:=hb3.ext hEd
  have hb4d:=hb4.ext hEd
  have lb3:=hb3d.lt
  have lb4:=hb4d.lt
  obtain⟨ov1,cv1,hv1,-,-,-,-,-⟩:=hA.at_.shape
  obtain⟨ov2,cv2,hv2,-,-,-,-,-⟩:=hA.kd.shape
  refine aQ.mk aB mixed [(0,true),(1,true),(2,true),(3,true),(4,false),(5,false)] [4,5] (by kernel_rfl) (fun w'=>w'=w3.drew) rfl ?_
  refine Load.here (hb3d.cells.one (k:=0) rfl) ?_
  refine Load.here (hb4d.cells.one (k:=0) rfl) ?_
  refine bA.store b3 0 _ [vat] 91 rfl (by rw[hv1];rfl) (by kernel_rfl) hb3d (by simp) (fun x hx=>by rw[List.mem_singleton.1 hx,hv1];rfl) fun w4 hU4=>?_
  refine bA.store b4 0 _ [vkd] 91 rfl (by rw[hv2];rfl) (by kernel_rfl) (hU4.aF hb4d (by omega)) (by simp) (fun x hx=>by rw[List.mem_singleton.1 hx,hv2];rfl) fun w5 hU5=>?_
  have hb35:bQ w5 b3 [vat] 91:=hU5.aF hU4.blk (by omega)
  have hb45:bQ w5 b4 [vkd] 91:=hU5.blk
  refine Load.here (hb35.cells.one (k:=0) rfl) ?_
  refine Load.here (hb45.cells.one (k:=0) rfl) ?_
  have hn3:∀(v:Value) (h:vall.ownBlock=v.ownBlock∨vat.ownBlock=v.ownBlock∨vkd.ownBlock=v.ownBlock),v.ownBlock≠some b3∧v.ownBlock≠some b4:=fun v h=>by
   refine⟨fun e=>?_,fun e=>?_⟩
   ·rw[e]at h;exact(hd34 b3 h).1 rfl
   ·rw[e]at h;exact(hd34 b4 h).2 rfl
  have h1:=hn3 vall (.inl rfl)
  have h2:=hn3 vat (.inr (.inl rfl))
  have h3:=hn3 vkd (.inr (.inr rfl))
  refine⟨own1,fo1,vall,vat,vkd,rfl,?_⟩
  exact⟨((hA.ext.trans hEd).upd hU4 (by omega)).upd hU5 (by omega),((hA.foat.ext hEd).ch (.bG (M:=fun k=>k=b3) hU4 rfl) (fun g _ (e:g=b3)=>by rw[e];exact ho3)).ch (.bG (M:=fun k=>k=b4) hU5 rfl) (fun g _ (e:g=b4)=>by rw[e];exact ho4),hA.ok,hA.len,hA.same,hA.own,
   ((hA.all.ext hEd).upd hU4 h1.1).upd hU5 h1.2,((hA.at_.ext hEd).upd hU4 h2.1).upd hU5 h2.2,((hA.kd.ext hEd).upd hU4 h3.1).upd hU5 h3.2,hA.ta,hA.tt,hA.tk,hA.d1,hA.d2⟩
 have hkl:k<l.length:=by omega
 obtain⟨a,ha,hc⟩:=h4 _ hA.ext k hkl
 have hpk:=hpar k hkl
 have hst':fF S.length ⟨S,[],[]⟩ (l.take (k+1))=cK S.length (fF S.length ⟨S,[],[]⟩ (l.take k)) l[k]:=by
  rw[List.take_succ_eq_append_getElem hkl,wU]
 have hwk:=hwf _ (List.getElem_mem hkl)
 refine Idx.mk a ha (by omega) (by omega) ?_
 refine Load.here (hc.all' rfl) ?_
 generalize l[k]=n at *
 generalize fF S.length ⟨S,[],[]⟩ (l.take k)=st at *
 have hlen:=hA.len
 obtain⟨nk,nn,nv,np⟩:=n
 simp only at hpk
 refine aG.alloc _ [.int .u8 0,.string ⟨#[]⟩,.string ⟨#[]⟩,.int .i64 0] mU rfl fun b6 w4 n4=>?_
 refine bA.store b6 0 _ [.int .u8 nk,.string nn,.string nv,.int .i64 np] 50 rfl rfl (by kernel_rfl) n4.blk (by simp) (by simp[Value.oneCell']) fun w5 hU5=>?_
 have n5:=n4.upd hU5
 have hb6:bQ w5 b6 [.int .u8 nk,.string nn,.string nv,.int .i64 np] 50:=n5.blk
 refine Load.here (hb6.cells.all' rfl) ?_
 refine aG.mk _ _ (run_build145 nk nn nv np w5) ?_
 refine aG.box [.int .u8 nk,.string nn,.string nv,.int .i64 np,.pointer none,.slice none 0 0,.slice none 0 0] rfl fun b7 w6 n6=>?_
 have eb7:=n6.b_eq
 have s5:=n5.sz
 have s6:=n6.sz
 have hsz3:=hA.ext.sz
 have hE36:=n5.ext.trans n6.ext
 have hf6:=(hA.foat.ext n5.ext).add (r:=⟨nk,nn,nv,np⟩) hA.ok.named n6 (by omega)
 have hall6:=hA.all.ext hE36
 have hat6:=hA.at_.ext hE36
 have hkd6:=hA.kd.ext hE36
 have hb36:=hb3.ext hE36
 have hb46:=hb4.ext hE36
 refine aG.mk _ _ (kI _ _) ?_
 obtain⟨w7,hw7⟩:∃w',w'=w6.alloc (.cells #[.pointer (some ⟨b7,0,none⟩)] 94):=⟨_,rfl⟩
 rw[←hw7]
 have n7:bO w6 w6.heap.size [.pointer (some ⟨b7,0,none⟩)] 94 w7:=⟨rfl,hw7⟩
 have hid:∀i,i<st.S.length→bN fo1.b st.S.length b7 i=fo1.b i:=fun i hi=>dS _ _ (by omega)
 have hallp:ptrs fo1.b ((List.range k).map (S.length+·))++[[.pointer (some ⟨b7,0,none⟩)]]=ptrs (bN fo1.b st.S.length b7) ((List.range (k+1)).map (S.length+·)):=by
  rw[List.range_succ,List.map_append,jJ]
  congr 1
  ·refine pK fun i hi=>(hid i ?_).symm
   obtain⟨j,hj,rfl⟩:=List.mem_map.1 hi
   have:=List.mem_range.1 hj
   omega
  ·simp only[List.map_cons,List.map_nil,ptrs,fQ]
   rw[←hlen,dD]
 refine bD.append iH w.heap.size _ [[.pointer (some ⟨b7,0,none⟩)]] (hall6.ext n7.ext) (aT n7) (by
  intro y hy
  rw[List.mem_singleton.1 hy]
  exact⟨rfl,fun u hu=>by rw[List.mem_singleton.1 hu];rfl⟩) (by simp[ptrs];omega) (by simp[ptrs];omega) (by have:=n7.sz;omega) fun vall' w8 hva8 har=>?_
 rw[hallp]at hva8
 have hf7:=hf6.ext n7.ext
 have s7:=n7.sz
 have hown6:∀g,g<w3.heap.size→bN own1 b7 (3*st.S.length+1) g=own1 g:=fun g hg=>dS _ _ (by omega)
 have hf8:=hf7.ch (.cO har (fun g hg=>hg)) (fun g hg (hm:vall.ownBlock=some g)=>by
  have h1:=(hA.all.ge hm).2
  rw[hown6 g h1]
  exact hA.ta g hm)
 have hvl:∀g,vall.ownBlock=some g→g<w3.heap.size:=fun g hg=>(hA.all.ge hg).2
 have hb38:=har.blk (hb36.ext n7.ext) (fun e=>(hd34 b3 (.inl e)).1 rfl)
 have hb48:=har.blk (hb46.ext n7.ext) (fun e=>(hd34 b4 (.inl e)).2 rfl)
 have hat8:=har.vec (hat6.ext n7.ext) (by
  cases hv:vat.ownBlock with
  | none=>exact .inl rfl
  | some g=>exact .inr (fun e=>(hA.d1 g e.symm).1 hv))
 have hkd8:=har.vec (hkd6.ext n7.ext) (by
  cases hv:vkd.ownBlock with
  | none=>exact .inl rfl
  | some g=>exact .inr (fun e=>(hA.d1 g e.symm).2 hv))
 have eb6:=n4.b_eq
 have s4:=n4.sz
 have hb68:=har.blk ((hb6.ext n6.ext).ext n7.ext) (fun e=>by have:=hvl b6 e;omega)
 have hE8:Ext w w8:=Below.trans ((hA.ext.trans hE36).trans n7.ext) (har.below (by omega) fun g hg=>(hA.all.ge hg).1)
 have s8:=har.sz
 have hv8:∀g,vall'.ownBlock=some g→vall.ownBlock=some g∨w7.heap.size≤g:=har.fresh
 have hatp:ptrs fo1.b st.at_=ptrs (bN fo1.b st.S.length b7) st.at_:=pK fun i hi=>(hid i (hA.ok.at_ i hi).2).symm
 have hkdp:ptrs fo1.b st.kd=ptrs (bN fo1.b st.S.length b7) st.kd:=pK fun i hi=>(hid i (hA.ok.kd i hi).2).symm
 rw[hatp]at hat8
 rw[hkdp]at hkd8
 have hlt3:∀g,(vat.ownBlock=some g∨vkd.ownBlock=some g)→g<w3.heap.size:=fun g hg=>by
  rcases hg with h|h
  ·exact(hA.at_.ge h).2
  ·exact(hA.kd.ge h).2
 have htall:fK (bN own1 b7 (3*st.S.length+1)) vall' 0:=fun g hg=>by
  rcases hv8 g hg with h|h
  ·rw[hown6 g (hvl g h)];exact hA.ta g h
  ·exact hf6.fresh g (by omega)
 have hne8:∀g,vall'.ownBlock=some g→vat.ownBlock≠some g∧vkd.ownBlock≠some g∧g≠b3∧g≠b4:=fun g hg=>by
  have l3:=hb3.lt
  have l4:=hb4.lt
  rcases hv8 g hg with h|h
  ·have:=hd34 g (.inl h)
   exact⟨(hA.d1 g h).1,(hA.d1 g h).2,this.1,this.2⟩
  ·exact⟨fun e=>by have:=hlt3 g (.inl e);omega,fun e=>by have:=hlt3 g (.inr e);omega,by omega,by omega⟩
 refine Load.here (hb68.cells.one (k:=3) rfl) ?_
 have hl3:=hb3.lt
 have hl4:=hb4.lt
 have hownw:∀g<w.heap.size,bN own1 b7 (3*st.S.length+1) g=own g:=fun g hg=>by rw[hown6 g (by omega)];exact hA.own g hg
 have hsame:∀i<S.length,bN fo1.b st.S.length b7 i=fo.b i:=fun i hi=>by
  have:=hA.ok.le
  rw[hid i (by omega)];exact hA.same i hi
 refine Cond.dec (fun g2=>?_) (fun g2=>?_)
 ·have hu:S.length+np.toNat<st.S.length:=by omega
  obtain⟨u,hue⟩:∃u,u=S.length+np.toNat:=⟨_,rfl⟩
  obtain⟨su,hsu⟩:∃su,st.S[u]? = some su:=⟨_,List.getElem?_eq_getElem (by omega)⟩
  obtain⟨oa,ca,hve,-,-,-,-,-⟩:=hva8.shape
  rw[aW,List.length_map,List.length_range]at hve
  obtain⟨aa,haa,hca⟩:=hva8.sl.el _ _ _ hve np.toNat [fQ (bN fo1.b st.S.length b7) u] (by
   rw[hue]
   simp only[ptrs,List.getElem?_map]
   rw[List.getElem?_range (by omega)]
   rfl)
  have hvn:vall'=.slice oa (k+1) ca:=hve
  have hnb8:=hf8.nb st.S.length ⟨⟨nk,nn,nv,np⟩,none,[],[]⟩ (by simp)
  have hb7:=hnb8.blk
  simp only[dD]at hb7
  refine Load.here (hb68.cells.one (k:=3) rfl) ?_
  rw[hvn]
  refine Idx.mk aa haa (by omega) (by omega) ?_
  refine Load.here (hca.one (k:=0) rfl) ?_
  rw[←hvn]
  refine bA.store b7 4 _ [fQ (bN fo1.b st.S.length b7) u] 145 rfl rfl (by kernel_rfl) hb7 (by simp[PN.cells,Nd.cells]) (fun x hx=>by rw[List.mem_singleton.1 hx];rfl) fun w9 hU9=>?_
  have hf9:=hf8.put (x:=st.S.length) (s:=⟨⟨nk,nn,nv,np⟩,none,[],[]⟩) (s':=⟨⟨nk,nn,nv,np⟩,some u,[],[]⟩) (by simp) (by simp only[dD];exact hU9) (by simp only[dD];rfl) rfl rfl
  have hset:(st.S++[(⟨⟨nk,nn,nv,np⟩,none,[],[]⟩:PN)]).set st.S.length ⟨⟨nk,nn,nv,np⟩,some u,[],[]⟩=st.S++[⟨⟨nk,nn,nv,np⟩,some u,[],[]⟩]:=by simp
  rw[hset]at hf9
  have hb79:bQ w9 b7 (PN.cells (bN fo1.b st.S.length b7) ⟨⟨nk,nn,nv,np⟩,some u,[],[]⟩ (.slice none 0 0) (.slice none 0 0)) 145:=by
   have:=(hf9.nb st.S.length ⟨⟨nk,nn,nv,np⟩,some u,[],[]⟩ (by simp)).blk
   simpa only [dD] using this
  have hb7n:w3.heap.size≤b7:=by omega
  have hE9:Ext w w9:=hE8.upd hU9 (by omega)
  have hb39:=hU9.aF hb38 (by omega)
  have hb49:=hU9.aF hb48 (by omega)
  have hva9:=hva8.upd hU9 (fun e=>by
   rcases hv8 b7 e with h|h
   ·have:=hvl b7 h;omega
   ·omega)
  have hat9:=hat8.upd hU9 (fun e=>by have:=hlt3 b7 (.inl e);omega)
  have hkd9:=hkd8.upd hU9 (fun e=>by have:=hlt3 b7 (.inr e);omega)
  have hb69:=hU9.aF hb68 (by omega)
  have hEd:=Ext.drew w9
  have hb7d:=hb79.ext hEd
  refine aQ.mk aB mixed (allT 0 14) [] (by kernel_rfl) (fun w'=>w'=w9.drew) rfl ?_
  refine Load.here (hb7d.cells.one (k:=4) rfl) ?_
  refine Load.here (hb7d.cells.one (k:=4) rfl) ?_
  refine Load.here ((hb69.ext hEd).cells.one (k:=0) rfl) ?_
  have hfd:=hf9.ext hEd
  have hsu9:(st.S++[(⟨⟨nk,nn,nv,np⟩,some u,[],[]⟩:PN)])[u]? = some su:=by
   rw[List.getElem?_append_left (by omega)];exact hsu
  have hnbu:=hfd.nb u su hsu9
  have hnvu:=hfd.nv u su hsu9
  have hbdu:=hBd.nd u su (by omega) hsu
  have hdw:w9.drew.heap.size=w9.heap.size:=rfl
  have s9:w8.heap.size=w9.heap.size:=hU9.sz.symm
  have hown6d:∀g,bN own1 b7 (3*st.S.length+1) g=3*u+1∨bN own1 b7 (3*st.S.length+1) g=3*u+2∨bN own1 b7 (3*st.S.length+1) g=3*u+3→w.heap.size≤g:=fun g hg=>by
   rcases Nat.lt_or_ge g w.heap.size with h|h
   ·have h1:=hownw g h
    have h2:=hf.bound g
    omega
   ·exact h
  have hgeu:w.heap.size≤bN fo1.b st.S.length b7 u:=hown6d _ (.inl hnbu.tag)
  have hokn:=apStep_ok (n0:=S.length) hA.ok ⟨nk,nn,nv,np⟩ (fun _=>hu)
  have hbdn:=apStep_bd hBd ⟨nk,nn,nv,np⟩ hA.ok.le
  have hlenn:=jW S.length st ⟨nk,nn,nv,np⟩
  have hapS:cK S.length st ⟨nk,nn,nv,np⟩=⟨(st.S++[(⟨⟨nk,nn,nv,np⟩,some u,[],[]⟩:PN)]).set u (if nk=3 then mD su st.S.length else oD su st.S.length),st.at_,st.kd⟩:=by
   unfold cK
   simp only
   rw[if_pos g2,←hue,hsu9]
  have hj7:[[Value.pointer (some ⟨b7,0,none⟩)]]=ptrs (bN fo1.b st.S.length b7) [st.S.length]:=by
   simp only[ptrs,List.map_cons,List.map_nil,fQ,dD]
  rw[hapS]at hst' hokn hbdn hlenn
  have hu0:∀g,bN own1 b7 (3*st.S.length+1) g=0→g≠bN fo1.b st.S.length b7 u:=fun g hg e=>by
   have this:bN own1 b7 (3*st.S.length+1) (bN fo1.b st.S.length b7 u)=3*u+1:=hnbu.tag
   rw[←e,hg]at this
   omega
  have hob3:bN own1 b7 (3*st.S.length+1) b3=0:=by rw[hown6 b3 hl3];exact ho3
  have hob4:bN own1 b7 (3*st.S.length+1) b4=0:=by rw[hown6 b4 hl4];exact ho4
  have htat:fK (bN own1 b7 (3*st.S.length+1)) vat 0:=fun g hg=>by rw[hown6 g (hlt3 g (.inl hg))];exact hA.tt g hg
  have htkd:fK (bN own1 b7 (3*st.S.length+1)) vkd 0:=fun g hg=>by rw[hown6 g (hlt3 g (.inr hg))];exact hA.tk g hg
  refine Cond.dec (fun g3=>?_) (fun g3=>?_)
  ·refine Load.here (hnbu.blk.cells.one (k:=5) rfl) ?_
   refine aG.mk _ _ (kI _ _) ?_
   obtain⟨w10,hw10⟩:∃w',w'=w9.drew.alloc (.cells #[.pointer (some ⟨b7,0,none⟩)] 94):=⟨_,rfl⟩
   rw[←hw10]
   have n10:bO w9.drew w9.drew.heap.size [.pointer (some ⟨b7,0,none⟩)] 94 w10:=⟨rfl,hw10⟩
   have hf10:=hfd.ext n10.ext
   have s10:=n10.sz
   refine bD.append iH B _ [[.pointer (some ⟨b7,0,none⟩)]] (hnvu.va.ext n10.ext) (aT n10) (by
    intro y hy
    rw[List.mem_singleton.1 hy]
    exact⟨rfl,fun x hx=>by rw[List.mem_singleton.1 hx];rfl⟩) (by rw[aW];simp;omega) (by rw[aW];simp;omega) (by omega) fun va' w11 hva11 har2=>?_
   rw[hj7,←jJ]at hva11
   have s11:=har2.sz
   have htag:∀g,va'.ownBlock=some g→bN own1 b7 (3*st.S.length+1) g=0∨bN own1 b7 (3*st.S.length+1) g=3*u+2:=fun g hg=>by
    rcases har2.fresh g hg with h|h
    ·exact .inr (hnvu.ta g h)
    ·exact .inl (hfd.fresh g (by omega))
   have hfx:=((hf10).x u).ch (.cO har2 (fun g hg=>hg)) (fun g _ hm=>by have:=hnvu.ta g hm;omega)
   have hnbx:=hfx.nb u su hsu9
   obtain⟨ov,cv,hvae,-,-,-,-,-⟩:=hva11.shape
   refine bA.store (bN fo1.b st.S.length b7 u) 5 _ [va'] 145 rfl (by rw[hvae];rfl) (by kernel_rfl) hnbx.blk (by simp[PN.cells,Nd.cells]) (fun x hx=>by rw[List.mem_singleton.1 hx,hvae];rfl) fun w12 hU12=>?_
   have hother:=har2.vec (hnvu.vk.ext n10.ext) (by
    cases hv:(bN fo1.vk st.S.length (.slice none 0 0) u).ownBlock with
    | none=>exact .inl rfl
    | some g=>exact .inr (fun e=>by have h1:=hnvu.tk g hv;have h2:=hnvu.ta g e.symm;omega))
   have hf12:=hfx.setAttrs (s:=su) hsu9 (l:=su.attrs++[st.S.length]) hU12 rfl hva11 htag hother hnvu.tk
   have hneu:∀(v:Value),fK (bN own1 b7 (3*st.S.length+1)) v 0→v.ownBlock=none∨v.ownBlock≠(bN fo1.va st.S.length (.slice none 0 0) u).ownBlock:=fun v hv=>by
    cases ho:v.ownBlock with
    | none=>exact .inl rfl
    | some g=>exact .inr (fun e=>by have h1:=hv g ho;have h2:=hnvu.ta g e.symm;omega)
   have hnU:∀(v:Value),fK (bN own1 b7 (3*st.S.length+1)) v 0→v.ownBlock≠some (bN fo1.b st.S.length b7 u):=fun v hv e=>hu0 _ (hv _ e) rfl
   have hsl0:∀(v:Value),fK (bN own1 b7 (3*st.S.length+1)) v 0→(∀g,v.ownBlock=some g→g<w10.heap.size)→fK (retag (bN own1 b7 (3*st.S.length+1)) va' (3*u+2)) v 0:=fun v hv hlt g hg=>by
    rw[dY (fun g' hg' e=>by
     rcases har2.fresh g' hg' with h|h
     ·have h1:=hnvu.ta g' h
      have h2:=hv g hg
      rw[e]at h2
      omega
     ·have:=hlt g hg
      omega)]
    exact hv g hg
   have hrt:∀g,g<w10.heap.size→bN own1 b7 (3*st.S.length+1) g=0→retag (bN own1 b7 (3*st.S.length+1)) va' (3*u+2) g=0:=fun g hg h0=>by
    rw[dY (fun g' hg' e=>by
     rcases har2.fresh g' hg' with h|h
     ·have h1:=hnvu.ta g' h
      rw[←e,h0]at h1
      omega
     ·omega)]
    exact h0
   have hva12:=(har2.vec ((hva9.ext hEd).ext n10.ext) (hneu _ htall)).upd hU12 (hnU _ htall)
   have hat12:=(har2.vec ((hat9.ext hEd).ext n10.ext) (hneu _ htat)).upd hU12 (hnU _ htat)
   have hkd12:=(har2.vec ((hkd9.ext hEd).ext n10.ext) (hneu _ htkd)).upd hU12 (hnU _ htkd)
   have hbx:∀(b:Nat) (cs:List Value) (t:TypeId),bN own1 b7 (3*st.S.length+1) b=0→bQ w9 b cs t→bQ w12 b cs t:=fun b cs t h0 hb=>hU12.aF (har2.blk ((hb.ext hEd).ext n10.ext) (fun e=>by have:=hnvu.ta b e;omega)) (hu0 b h0)
   have hE12:Ext w w12:=(Below.trans ((hE9.trans hEd).trans n10.ext) (har2.below (B:=w.heap.size) (by omega) fun g hg=>hown6d g (.inr (.inl (hnvu.ta g hg))))).trans (hU12.below hgeu)
   refine Ar.aM (k+1) (by omega) (by omega) ?_
   refine⟨(k+1,retag (bN own1 b7 (3*st.S.length+1)) va' (3*u+2),⟨bN fo1.b st.S.length b7,bN (bN fo1.va st.S.length (.slice none 0 0)) u va',bN fo1.vk st.S.length (.slice none 0 0)⟩,vall',vat,vkd),⟨by show k+1≤_;omega,?_,?_,hbx b3 _ _ hob3 hb39,hbx b4 _ _ hob4 hb49,hrt b3 (by omega) hob3,hrt b4 (by omega) hob4,fun g hg=>?_⟩,by show l.length-(k+1)<l.length-k;omega,by rw[hvn];rfl,rfl,rfl,rfl,rfl,rfl,trivial⟩
   ·simp only
    rw[hst']
    refine⟨hE12,?_,?_,?_,hsame,fun g hg=>?_,hva12,hat12,hkd12,?_,?_,?_,fun g hg=>?_,hA.d2⟩
    ·have:=hf12
     simp only[if_pos g3,mD]at this ⊢
     exact this
    ·exact hokn
    ·rw[hlenn];omega
    ·show retag _ _ _ g=own g
     rw[dY (fun g' hg' e=>by
      rcases har2.fresh g' hg' with h|h
      ·have:=hown6d g' (.inr (.inl (hnvu.ta g' h)));omega
      ·omega)]
     exact hownw g hg
    ·exact hsl0 _ htall (fun g hg=>by have:=(hva8.ge hg).2;omega)
    ·exact hsl0 _ htat (fun g hg=>by have:=hlt3 g (.inl hg);omega)
    ·exact hsl0 _ htkd (fun g hg=>by have:=hlt3 g (.inr hg);omega)
    ·exact⟨(hne8 g hg).1,(hne8 g hg).2.1⟩
   ·simp only
    rw[hst']
    exact hbdn
   ·rcases hg with h|h
    ·exact(hne8 g h).2.2
    ·exact hd34 g (.inr h)
  ·refine Load.here (hnbu.blk.cells.one (k:=6) rfl) ?_
   refine aG.mk _ _ (kI _ _) ?_
   obtain⟨w10,hw10⟩:∃w',w'=w9.drew.alloc (.cells #[.pointer (some ⟨b7,0,none⟩)] 94):=⟨_,rfl⟩
   rw[←hw10]
   have n10:bO w9.drew w9.drew.heap.size [.pointer (some ⟨b7,0,none⟩)] 94 w10:=⟨rfl,hw10⟩
   have hf10:=hfd.ext n10.ext
   have s10:=n10.sz
   refine bD.append iH B _ [[.pointer (some ⟨b7,0,none⟩)]] (hnvu.vk.ext n10.ext) (aT n10) (by
    intro y hy
    rw[List.mem_singleton.1 hy]
    exact⟨rfl,fun x hx=>by rw[List.mem_singleton.1 hx];rfl⟩) (by rw[aW];simp;omega) (by rw[aW];simp;omega) (by omega) fun va' w11 hva11 har2=>?_
   rw[hj7,←jJ]at hva11
   have s11:=har2.sz
   have htag:∀g,va'.ownBlock=some g→bN own1 b7 (3*st.S.length+1) g=0∨bN own1 b7 (3*st.S.length+1) g=3*u+3:=fun g hg=>by
    rcases har2.fresh g hg with h|h
    ·exact .inr (hnvu.tk g h)
    ·exact .inl (hfd.fresh g (by omega))
   have hfx:=((hf10).x u).ch (.cO har2 (fun g hg=>hg)) (fun g _ hm=>by have:=hnvu.tk g hm;omega)
   have hnbx:=hfx.nb u su hsu9
   obtain⟨ov,cv,hvae,-,-,-,-,-⟩:=hva11.shape
   refine bA.store (bN fo1.b st.S.length b7 u) 6 _ [va'] 145 rfl (by rw[hvae];rfl) (by kernel_rfl) hnbx.blk (by simp[PN.cells,Nd.cells]) (fun x hx=>by rw[List.mem_singleton.1 hx,hvae];rfl) fun w12 hU12=>?_
   have hother:=har2.vec (hnvu.va.ext n10.ext) (by
    cases hv:(bN fo1.va st.S.length (.slice none 0 0) u).ownBlock with
    | none=>exact .inl rfl
    | some g=>exact .inr (fun e=>by have h1:=hnvu.ta g hv;have h2:=hnvu.tk g e.symm;omega))
   have hf12:=hfx.setKids (s:=su) hsu9 (l:=su.kids++[st.S.length]) hU12 rfl hva11 htag hother hnvu.ta
   have hneu:∀(v:Value),fK (bN own1 b7 (3*st.S.length+1)) v 0→v.ownBlock=none∨v.ownBlock≠(bN fo1.vk st.S.length (.slice none 0 0) u).ownBlock:=fun v hv=>by
    cases ho:v.ownBlock with
    | none=>exact .inl rfl
    | some g=>exact .inr (fun e=>by have h1:=hv g ho;have h2:=hnvu.tk g e.symm;omega)
   have hnU:∀(v:Value),fK (bN own1 b7 (3*st.S.length+1)) v 0→v.ownBlock≠some (bN fo1.b st.S.length b7 u):=fun v hv e=>hu0 _ (hv _ e) rfl
   have hsl0:∀(v:Value),fK (bN own1 b7 (3*st.S.length+1)) v 0→(∀g,v.ownBlock=some g→g<w10.heap.size)→fK (retag (bN own1 b7 (3*st.S.length+1)) va' (3*u+3)) v 0:=fun v hv hlt g hg=>by
    rw[dY (fun g' hg' e=>by
     rcases har2.fresh g' hg' with h|h
     ·have h1:=hnvu.tk g' h
      have h2:=hv g hg
      rw[e]at h2
      omega
     ·have:=hlt g hg
      omega)]
    exact hv g hg
   have hrt:∀g,g<w10.heap.size→bN own1 b7 (3*st.S.length+1) g=0→retag (bN own1 b7 (3*st.S.length+1)) va' (3*u+3) g=0:=fun g hg h0=>by
    rw[dY (fun g' hg' e=>by
     rcases har2.fresh g' hg' with h|h
     ·have h1:=hnvu.tk g' h
      rw[←e,h0]at h1
      omega
     ·omega)]
    exact h0
   have hva12:=(har2.vec ((hva9.ext hEd).ext n10.ext) (hneu _ htall)).upd hU12 (hnU _ htall)
   have hat12:=(har2.vec ((hat9.ext hEd).ext n10.ext) (hneu _ htat)).upd hU12 (hnU _ htat)
   have hkd12:=(har2.vec ((hkd9.ext hEd).ext n10.ext) (hneu _ htkd)).upd hU12 (hnU _ htkd)
   have hbx:∀(b:Nat) (cs:List Value) (t:TypeId),bN own1 b7 (3*st.S.length+1) b=0→bQ w9 b cs t→bQ w12 b cs t:=fun b cs t h0 hb=>hU12.aF (har2.blk ((hb.ext hEd).ext n10.ext) (fun e=>by have:=hnvu.tk b e;omega)) (hu0 b h0)
   have hE12:Ext w w12:=(Below.trans ((hE9.trans hEd).trans n10.ext) (har2.below (B:=w.heap.size) (by omega) fun g hg=>hown6d g (.inr (.inr (hnvu.tk g hg))))).trans (hU12.below hgeu)
   refine Ar.aM (k+1) (by omega) (by omega) ?_
   refine⟨(k+1,retag (bN own1 b7 (3*st.S.length+1)) va' (3*u+3),⟨bN fo1.b st.S.length b7,bN fo1.va st.S.length (.slice none 0 0),bN (bN fo1.vk st.S.length (.slice none 0 0)) u va'⟩,vall',vat,vkd),⟨by show k+1≤_;omega,?_,?_,hbx b3 _ _ hob3 hb39,hbx b4 _ _ hob4 hb49,hrt b3 (by omega) hob3,hrt b4 (by omega) hob4,fun g hg=>?_⟩,by show l.length-(k+1)<l.length-k;omega,by rw[hvn];rfl,rfl,rfl,rfl,rfl,rfl,trivial⟩
   ·simp only
    rw[hst']
    refine⟨hE12,?_,?_,?_,hsame,fun g hg=>?_,hva12,hat12,hkd12,?_,?_,?_,fun g hg=>?_,hA.d2⟩
    ·have:=hf12
     simp only[if_neg g3,oD]at this ⊢
     exact this
    ·exact hokn
    ·rw[hlenn];omega
    ·show retag _ _ _ g=own g
     rw[dY (fun g' hg' e=>by
      rcases har2.fresh g' hg' with h|h
      ·have:=hown6d g' (.inr (.inr (hnvu.tk g' h)));omega
      ·omega)]
     exact hownw g hg
    ·exact hsl0 _ htall (fun g hg=>by have:=(hva8.ge hg).2;omega)
    ·exact hsl0 _ htat (fun g hg=>by have:=hlt3 g (.inl hg);omega)
    ·exact hsl0 _ htkd (fun g hg=>by have:=hlt3 g (.inr hg);omega)
    ·exact⟨(hne8 g hg).1,(hne8 g hg).2.1⟩
   ·simp only
    rw[hst']
    exact hbdn
   ·rcases hg with h|h
    ·exact(hne8 g h).2.2
    ·exact hd34 g (.inr h)
 ·refine Load.here (hb68.cells.one (k:=0) rfl) ?_
  have hapS:∀(x:Nd),x.parent=np→cK S.length st x=(if x.kind=3 then⟨st.S++[⟨x,none,[],[]⟩],st.at_++[st.S.length],st.kd⟩else⟨st.S++[⟨x,none,[],[]⟩],st.at_,st.kd++[st.S.length]⟩):=fun x hx=>by
   unfold cK
   simp only
   rw[if_neg (by omega)]
  have hokn:=apStep_ok (n0:=S.length) hA.ok ⟨nk,nn,nv,np⟩ (fun h=>absurd h g2)
  have hj7:[[Value.pointer (some ⟨b7,0,none⟩)]]=ptrs (bN fo1.b st.S.length b7) [st.S.length]:=by
   simp only[ptrs,List.map_cons,List.map_nil,fQ,dD]
  have hbdn:=apStep_bd hBd ⟨nk,nn,nv,np⟩ hA.ok.le
  have hlenn:=jW S.length st ⟨nk,nn,nv,np⟩
  have hob3:bN own1 b7 (3*st.S.length+1) b3=0:=by rw[hown6 b3 hl3];exact ho3
  have hob4:bN own1 b7 (3*st.S.length+1) b4=0:=by rw[hown6 b4 hl4];exact ho4
  have htat:fK (bN own1 b7 (3*st.S.length+1)) vat 0:=fun g hg=>by rw[hown6 g (hlt3 g (.inl hg))];exact hA.tt g hg
  have htkd:fK (bN own1 b7 (3*st.S.length+1)) vkd 0:=fun g hg=>by rw[hown6 g (hlt3 g (.inr hg))];exact hA.tk g hg
  refine Cond.dec (fun g3=>?_) (fun g3=>?_)
  ·refine Load.here (hb38.cells.one (k:=0) rfl) ?_
   refine aG.mk _ _ (kI _ _) ?_
   obtain⟨w9,hw9⟩:∃w',w'=w8.alloc (.cells #[.pointer (some ⟨b7,0,none⟩)] 94):=⟨_,rfl⟩
   rw[←hw9]
   have n9:bO w8 w8.heap.size [.pointer (some ⟨b7,0,none⟩)] 94 w9:=⟨rfl,hw9⟩
   have s9:=n9.sz
   have hbl:=hBd.at_
   refine bD.append iH w.heap.size _ [[.pointer (some ⟨b7,0,none⟩)]] (hat8.ext n9.ext) (aT n9) (by
    intro y hy
    rw[List.mem_singleton.1 hy]
    exact⟨rfl,fun x hx=>by rw[List.mem_singleton.1 hx];rfl⟩) (by rw[aW];simp;omega) (by rw[aW];simp;omega) (by omega) fun va' w10 hva10 har2=>?_
   rw[hj7,←jJ]at hva10
   have s10:=har2.sz
   have htag:fK (bN own1 b7 (3*st.S.length+1)) va' 0:=fun g hg=>by
    rcases har2.fresh g hg with h|h
    ·exact htat g h
    ·exact hf8.fresh g (by omega)
   have hneo:∀(v:Value),(∀g,v.ownBlock=some g→vat.ownBlock≠some g)→v.ownBlock=none∨v.ownBlock≠vat.ownBlock:=fun v hv=>by
    cases ho:v.ownBlock with
    | none=>exact .inl rfl
    | some g=>exact .inr (fun e=>hv g ho e.symm)
   obtain⟨ov,cv,hvae,-,-,-,-,-⟩:=hva10.shape
   have hb310:=har2.blk (hb38.ext n9.ext) (fun e=>(hd34 b3 (.inr (.inl e))).1 rfl)
   have hb410:=har2.blk (hb48.ext n9.ext) (fun e=>(hd34 b4 (.inr (.inl e))).2 rfl)
   refine bA.store b3 0 _ [va'] 91 rfl (by rw[hvae];rfl) (by kernel_rfl) hb310 (by simp) (fun x hx=>by rw[List.mem_singleton.1 hx,hvae];rfl) fun w11 hU11=>?_
   have hb311:bQ w11 b3 [va'] 91:=hU11.blk
   have hb411:=hU11.aF hb410 (by omega)
   have hf11:=((hf8.ext n9.ext).ch (.cO har2 (fun g hg=>hg)) (fun g _ hm=>htat g hm)).ch (.bG (M:=fun k=>k=b3) hU11 rfl) (fun g _ (e:g=b3)=>by rw[e];exact hob3)
   have hva11:=(har2.vec (hva8.ext n9.ext) (hneo _ (fun g hg=>(hne8 g hg).1))).upd hU11 (fun e=>(hne8 b3 e).2.2.1 rfl)
   have hoth11:=(har2.vec (hkd8.ext n9.ext) (hneo _ (fun g hg=>fun e=>hA.d2 g e hg))).upd hU11 (fun e=>(hd34 b3 (.inr (.inr e))).1 rfl)
   have hnew11:=hva10.upd hU11 (fun e=>by
    rcases har2.fresh b3 e with h|h
    ·exact(hd34 b3 (.inr (.inl h))).1 rfl
    ·omega)
   have hE11:Ext w w11:=(Below.trans (hE8.trans n9.ext) (har2.below (B:=w.heap.size) (by omega) fun g hg=>(hA.at_.ge hg).1)).trans (hU11.below (by omega))
   have hnew:∀g,va'.ownBlock=some g→vat.ownBlock=some g∨w9.heap.size≤g:=har2.fresh
   have hlall:∀g,vall'.ownBlock=some g→g<w8.heap.size:=fun g hg=>(hva8.ge hg).2
   rw[hapS ⟨nk,nn,nv,np⟩ rfl]at hst' hokn hbdn hlenn
   simp only[if_pos g3]at hst' hokn hbdn hlenn
   refine Ar.aM (k+1) (by omega) (by omega) ?_
   refine⟨(k+1,bN own1 b7 (3*st.S.length+1),⟨bN fo1.b st.S.length b7,bN fo1.va st.S.length (.slice none 0 0),bN fo1.vk st.S.length (.slice none 0 0)⟩,vall',va',vkd),⟨by show k+1≤_;omega,?_,?_,hb311,hb411,hob3,hob4,fun g hg=>?_⟩,by show l.length-(k+1)<l.length-k;omega,rfl,rfl,rfl,rfl,rfl,rfl,trivial⟩
   ·simp only
    rw[hst']
    refine⟨hE11,hf11,hokn,by rw[hlenn];omega,hsame,fun g hg=>hownw g hg,hva11,hnew11,hoth11,htall,htag,htkd,fun g hg=>⟨?_,?_⟩,fun g hg=>?_⟩
    ·intro e;rcases hnew g e with h|h
     ·exact(hne8 g hg).1 h
     ·have:=hlall g hg;omega
    ·exact(hne8 g hg).2.1
    ·intro e
     rcases hnew g hg with h|h
     ·exact hA.d2 g h e
     ·have:=hlt3 g (.inr e);omega
   ·simp only
    rw[hst']
    exact hbdn
   ·simp only at hg
    rcases hg with h|h|h
    ·exact(hne8 g h).2.2
    ·rcases hnew g h with h|h
     ·exact hd34 g (.inr (.inl h))
     ·exact⟨by omega,by omega⟩
    ·exact hd34 g (.inr (.inr h))
  ·refine Load.here (hb48.cells.one (k:=0) rfl) ?_
   refine aG.mk _ _ (kI _ _) ?_
   obtain⟨w9,hw9⟩:∃w',w'=w8.alloc (.cells #[.pointer (some ⟨b7,0,none⟩)] 94):=⟨_,rfl⟩
   rw[←hw9]
   have n9:bO w8 w8.heap.size [.pointer (some ⟨b7,0,none⟩)] 94 w9:=⟨rfl,hw9⟩
   have s9:=n9.sz
   have hbl:=hBd.kd
   refine bD.append iH w.heap.size _ [[.pointer (some ⟨b7,0,none⟩)]] (hkd8.ext n9.ext) (aT n9) (by
    intro y hy
    rw[List.mem_singleton.1 hy]
    exact⟨rfl,fun x hx=>by rw[List.mem_singleton.1 hx];rfl⟩) (by rw[aW];simp;omega) (by rw[aW];simp;omega) (by omega) fun va' w10 hva10 har2=>?_
   rw[hj7,←jJ]at hva10
   have s10:=har2.sz
   have htag:fK (bN own1 b7 (3*st.S.length+1)) va' 0:=fun g hg=>by
    rcases har2.fresh g hg with h|h
    ·exact htkd g h
    ·exact hf8.fresh g (by omega)
   have hneo:∀(v:Value),(∀g,v.ownBlock=some g→vkd.ownBlock≠some g)→v.ownBlock=none∨v.ownBlock≠vkd.ownBlock:=fun v hv=>by
    cases ho:v.ownBlock with
    | none=>exact .inl rfl
    | some g=>exact .inr (fun e=>hv g ho e.symm)
   obtain⟨ov,cv,hvae,-,-,-,-,-⟩:=hva10.shape
   have hb310:=har2.blk (hb38.ext n9.ext) (fun e=>(hd34 b3 (.inr (.inr e))).1 rfl)
   have hb410:=har2.blk (hb48.ext n9.ext) (fun e=>(hd34 b4 (.inr (.inr e))).2 rfl)
   refine bA.store b4 0 _ [va'] 91 rfl (by rw[hvae];rfl) (by kernel_rfl) hb410 (by simp) (fun x hx=>by rw[List.mem_singleton.1 hx,hvae];rfl) fun w11 hU11=>?_
   have hb411:bQ w11 b4 [va'] 91:=hU11.blk
   have hb311:=hU11.aF hb310 (by omega)
   have hf11:=((hf8.ext n9.ext).ch (.cO har2 (fun g hg=>hg)) (fun g _ hm=>htkd g hm)).ch (.bG (M:=fun k=>k=b4) hU11 rfl) (fun g _ (e:g=b4)=>by rw[e];exact hob4)
   have hva11:=(har2.vec (hva8.ext n9.ext) (hneo _ (fun g hg=>(hne8 g hg).2.1))).upd hU11 (fun e=>(hne8 b4 e).2.2.2 rfl)
   have hoth11:=(har2.vec (hat8.ext n9.ext) (hneo _ (fun g hg=>fun e=>hA.d2 g hg e))).upd hU11 (fun e=>(hd34 b4 (.inr (.inl e))).2 rfl)
   have hnew11:=hva10.upd hU11 (fun e=>by
    rcases har2.fresh b4 e with h|h
    ·exact(hd34 b4 (.inr (.inr h))).2 rfl
    ·omega)
   have hE11:Ext w w11:=(Below.trans (hE8.trans n9.ext) (har2.below (B:=w.heap.size) (by omega) fun g hg=>(hA.kd.ge hg).1)).trans (hU11.below (by omega))
   have hnew:∀g,va'.ownBlock=some g→vkd.ownBlock=some g∨w9.heap.size≤g:=har2.fresh
   have hlall:∀g,vall'.ownBlock=some g→g<w8.heap.size:=fun g hg=>(hva8.ge hg).2
   rw[hapS ⟨nk,nn,nv,np⟩ rfl]at hst' hokn hbdn hlenn
   simp only[if_neg g3]at hst' hokn hbdn hlenn
   refine Ar.aM (k+1) (by omega) (by omega) ?_
   refine⟨(k+1,bN own1 b7 (3*st.S.length+1),⟨bN fo1.b st.S.length b7,bN fo1.va st.S.length (.slice none 0 0),bN fo1.vk st.S.length (.slice none 0 0)⟩,vall',vat,va'),⟨by show k+1≤_;omega,?_,?_,hb311,hb411,hob3,hob4,fun g hg=>?_⟩,by show l.length-(k+1)<l.length-k;omega,rfl,rfl,rfl,rfl,rfl,rfl,trivial⟩
   ·simp only
    rw[hst']
    refine⟨hE11,hf11,hokn,by rw[hlenn];omega,hsame,fun g hg=>hownw g hg,hva11,hoth11,hnew11,htall,htat,htag,fun g hg=>⟨?_,?_⟩,fun g hg=>?_⟩
    ·exact(hne8 g hg).1
    ·intro e;rcases hnew g e with h|h
     ·exact(hne8 g hg).2.1 h
     ·have:=hlall g hg;omega
    ·intro e
     rcases hnew g e with h|h
     ·exact hA.d2 g hg h
     ·have:=hlt3 g (.inl hg);omega
   ·simp only
    rw[hst']
    exact hbdn
   ·simp only at hg
    rcases hg with h|h|h
    ·exact(hne8 g h).2.2
    ·exact hd34 g (.inr (.inl h))
    ·rcases hnew g h with h|h
     ·exact hd34 g (.inr (.inr h))
     ·exact⟨by omega,by omega⟩
def qZ(s:PN)(u:Nat):PN:={ s with up:=some u }
def jN(u:Nat)(S:List PN)(i:Nat):List PN:=match S[i]? with
 | some s=>S.set i (qZ s u)
 | none=>S
def bE(S:List PN)(u:Nat)(l:List Nat):List PN:=l.foldl (jN u) S
theorem takeF_snoc(S:List PN)(u:Nat)(l:List Nat)(i:Nat):bE S u (l++[i])=jN u (bE S u l) i:=by simp[bE]
theorem takeStep_len(u:Nat)(S:List PN)(i:Nat):(jN u S i).length=S.length:=by
 unfold jN
 split<;>simp
theorem aZ(S:List PN)(u:Nat):∀l:List Nat,(bE S u l).length=S.length:=by
 intro l
 induction l generalizing S with
 | nil=>rfl
 | cons i r ih=>
   have:=ih (jN u S i)
   rw[takeStep_len]at this
   exact this
theorem iY.inj{w:World}{B:Nat}{own:Nat→Nat}{fo:Fo}{S:List PN}(h:iY w B own fo S){i j:Nat}(hi:i<S.length)(hj:j<S.length)(e:fo.b i=fo.b j):i=j:=by
 have h1:=(h.nb i _ (List.getElem?_eq_getElem hi)).tag
 have h2:=(h.nb j _ (List.getElem?_eq_getElem hj)).tag
 rw[e,h2]at h1
 omega
theorem FoX.putO{w w':World}{B:Nat}{own:Nat→Nat}{fo:Fo}{S:List PN}{x i:Nat}{s s':PN}{cs:List Value}(h:FoX w B own fo S x)(hi:S[i]? = some s)(hix:i≠x)(hU:mK w (fo.b i) cs 145 w')
  (hcs:cs=s'.cells fo.b (fo.va i) (fo.vk i)) (ha:s'.attrs=s.attrs) (hk:s'.kids=s.kids):FoX w' B own fo (S.set i s') x:=by
 have hil:=(List.getElem?_eq_some_iff.1 hi).1
 have hnb:=h.nb i s hi
 have hC:Ch (fun k=>k=fo.b i) w w':=.bG hU rfl
 refine⟨fun k hk=>h.fresh k (Nat.le_trans hC.size hk),fun k=>by rw[List.length_set];exact h.bound k,fun j t hj=>?_,fun j t hj hjx=>?_⟩
 ·rw[List.getElem?_set]at hj
  by_cases e:i=j
  ·subst e
   rw[if_pos rfl,if_pos hil]at hj
   cases hj
   exact⟨by rw[←hcs];exact hU.blk,hnb.ge,hnb.tag⟩
  ·rw[if_neg e]at hj
   obtain⟨h1,h2,h3⟩:=h.nb j t hj
   exact⟨hC.blk h1 (fun e2=>by rw[e2,hnb.tag]at h3;omega),h2,h3⟩
 ·have key:∀(t0:PN),S[j]? = some t0→t0.attrs=t.attrs→t0.kids=t.kids→NodeV w' B own fo j t:=fun t0 h0 ea ek=>by
   obtain⟨h1,h2,h3,h4⟩:=h.nv j t0 h0 hjx
   rw[ea]at h1
   rw[ek]at h2
   exact⟨hC.vec h1 (fun g hg e=>by have:=h3 g hg;rw[e,hnb.tag]at this;omega),hC.vec h2 (fun g hg e=>by have:=h4 g hg;rw[e,hnb.tag]at this;omega),h3,h4⟩
  rw[List.getElem?_set]at hj
  by_cases e:i=j
  ·subst e
   rw[if_pos rfl,if_pos hil]at hj
   cases hj
   exact key s hi ha.symm hk.symm
  ·rw[if_neg e]at hj
   exact key t hj rfl rfl
theorem FoX.all{w:World}{B:Nat}{own:Nat→Nat}{fo:Fo}{S:List PN}(h:FoX w B own fo S S.length):iY w B own fo S:=
 ⟨h.fresh,h.bound,h.nb,fun i s hs=>h.nv i s hs (by have:=(List.getElem?_eq_some_iff.1 hs).1;omega)⟩
theorem rZ(u y:Nat)(x:Option Addr)(v:Value)(l:List Nat)(w:World)(B Bv:Nat)(own:Nat→Nat)(fo:Fo)(S:List PN)(hf:FoX w B own fo S y)(hx:x=some ⟨fo.b u,0,none⟩)(hv:Vec w Bv 94 1 v (ptrs fo.b l))(ht:fK own v 0)
  (hl:∀i∈l,i<S.length∧i≠y) (hlen:l.length≤1000000000000) :
  bV Tryz.prog 109 #[.pointer x,v] w (fun v' w'=>v'=v∧FoX w' B own fo (bE S u l) y∧Vec w' Bv 94 1 v (ptrs fo.b l)∧Ch (fun k=>∃i∈l,k=fo.b i) w w'):=by
 have hml:maxLen=9223372036854775807:=rfl
 subst hx
 obtain⟨o,c,hve,c1,c2,c3,-,-⟩:=hv.shape
 rw[aW]at hve c1
 subst hve
 refine enter aB Tryz.func109 (aV rfl) rfl rfl rfl ?_
 refine aH.mk (X:=Nat) (fun k=>[(0,.pointer (some ⟨fo.b u,0,none⟩)),(1,.slice o l.length c),(7,.slice o l.length c),(8,.int .i64 l.length),(9,.int .i64 k)])
  (fun k w'=>k≤l.length∧FoX w' B own fo (bE S u (l.take k)) y∧Vec w' Bv 94 1 (.slice o l.length c) (ptrs fo.b l)∧Ch (fun k=>∃i∈l,k=fo.b i) w w') (fun k=>l.length-k) 0
  ⟨Nat.zero_le _,hf,hv,Ch.refl _ _⟩ ⟨rfl,rfl,rfl,rfl,rfl,trivial⟩ ?_
 rintro k w1 ⟨hk,hf1,hv1,hC1⟩
 refine Cond.dec (fun g1=>?_) (fun g1=>?_)
 rotate_left
 ·have hkl:k=l.length:=by omega
  rw[hkl,List.take_length]at hf1
  exact⟨rfl,hf1,hv1,hC1⟩
 have hkl:k<l.length:=by omega
 have hil:=hl _ (List.getElem_mem hkl)
 obtain⟨a,ha,hc⟩:=hv1.sl.el _ _ _ rfl k [fQ fo.b l[k]] (by simp[ptrs,hkl])
 have htk:bE S u (l.take (k+1))=jN u (bE S u (l.take k)) l[k]:=by
  rw[List.take_succ_eq_append_getElem hkl,takeF_snoc]
 have hS1:=aZ S u (l.take k)
 generalize bE S u (l.take k)=S1 at *
 have hmem:l[k]∈l:=List.getElem_mem hkl
 generalize l[k]=i at *
 obtain⟨s,hs⟩:∃s,S1[i]? = some s:=⟨_,List.getElem?_eq_getElem (by omega)⟩
 have hnb:=hf1.nb i s hs
 refine Idx.mk a ha (by omega) (by omega) ?_
 refine Load.here (hc.one (k:=0) rfl) ?_
 refine bA.store (fo.b i) 4 _ [fQ fo.b u] 145 rfl rfl (by kernel_rfl) hnb.blk (by simp[PN.cells,Nd.cells]) (fun y hy=>by rw[List.mem_singleton.1 hy];rfl) fun w2 hU=>?_
 have hf2:=hf1.putO (s':=qZ s u) hs hil.2 hU rfl rfl rfl
 have hv2:=hv1.upd hU (fun e=>by have h1:=ht _ e;have h2:=hnb.tag;omega)
 refine Ar.aM (k+1) (by omega) (by omega) ?_
 refine⟨k+1,⟨by omega,?_,hv2,hC1.trans (.bG hU ⟨i,hmem,rfl⟩)⟩,by omega,rfl,rfl,rfl,rfl,rfl,trivial⟩
 rw[htk]
 unfold jN
 rw[hs]
 exact hf2
theorem take_con(u:Nat)(x:Option Addr)(v:Value)(l:List Nat)(w:World)(B Bv:Nat)(own:Nat→Nat)(fo:Fo)(S:List PN)(hf:iY w B own fo S)(hx:x=some ⟨fo.b u,0,none⟩)(hv:Vec w Bv 94 1 v (ptrs fo.b l))(ht:fK own v 0)
  (hl:∀i∈l,i<S.length) (hlen:l.length≤1000000000000) :
  bV Tryz.prog 109 #[.pointer x,v] w (fun v' w'=>v'=v∧iY w' B own fo (bE S u l)∧Vec w' Bv 94 1 v (ptrs fo.b l)∧Ch (fun k=>∃i∈l,k=fo.b i) w w'):=by
 refine(rZ u S.length x v l w B Bv own fo S (hf.x _) hx hv ht (fun i hi=>⟨hl i hi,by have:=hl i hi;omega⟩) hlen).mono ?_
 rintro v' w' ⟨h1,h2,h3⟩
 rw[←aZ S u l]at h2
 exact⟨h1,h2.all,h3⟩
theorem jG(o:Option Addr)(k c:Nat):Value.slice (if(c:Int).toNat=(0:Int).toNat then o else o.map (fun x=>x.add ((0:Int).toNat*1))) ((k:Int).toNat-(0:Int).toNat) ((c:Int).toNat-(0:Int).toNat)=.slice o k c:=by
 rw[vT c o 1]
 rfl
def dupF:List ByteArray→List ByteArray→Bool
 | _,[]=>false
 | s,x::r=>s.any (fun y=>decide (x=y))||dupF (s++[x]) r
def nameOf(S:List PN)(i:Nat):ByteArray:=match S[i]? with
 | some s=>s.row.name
 | none=>aP
def twB(S:List PN):Nat→Nat→Bool
 | 0,_=>false
 | n+1,i=>match S[i]? with
   | none=>false
   | some s=>dupF [] (s.attrs.map (nameOf S))||s.kids.any (fun j=>twB S n j)
def Down(S:List PN):Prop:=∀(i:Nat) (s:PN),S[i]? = some s→(∀j∈s.attrs,i<j∧j<S.length)∧(∀j∈s.kids,i<j∧j<S.length)
theorem IndexFunc57_con(v:Value)(l:List Nat)(w:World)(b:Nat→Nat)(f:Nat→Bool)(hl:∀w',Ext w w'→eO w' v 1 (ptrs b l))(hlen:l.length≤1000000000000)
  (hcon:∀w',Ext w w'→∀i∈l,bV Tryz.prog 57 #[fQ b i] w' (fun v' w''=>v'=.bool (f i)∧Ext w' w'')) :
  bV Tryz.prog 165 #[v,.func (.func 57) #[] #[]] w (fun v' w'=>(∃n:Int,v'=.int .i64 n∧(0≤n↔l.any f=true))∧Ext w w'):=by
 have hml:maxLen=9223372036854775807:=rfl
 obtain⟨o,c,rfl,c1,c2,c3⟩:=(hl w (Ext.refl _)).ex
 rw[aW]at c1 hl ⊢
 refine enter aB Tryz.func165 (aV rfl) rfl rfl rfl ?_
 refine aH.mk (X:=Nat) (fun k=>[(0,.slice o l.length c),(1,.func (.func 57) #[] #[]),(7,.int .i64 l.length),(8,.int .i64 k)])
  (fun k w'=>Ext w w'∧k≤l.length∧(l.take k).any f=false) (fun k=>l.length-k) 0 ⟨Ext.refl _,Nat.zero_le _,rfl⟩ ⟨rfl,rfl,rfl,rfl,trivial⟩ ?_
 rintro k w1 ⟨hE,hk,ha⟩
 refine Cond.dec (fun g1=>?_) (fun g1=>?_)
 ·have hkl:k<l.length:=by omega
  obtain⟨a,ha',hc⟩:=(hl w1 hE).el _ _ _ rfl k [fQ b l[k]] (by simp[ptrs,hkl])
  refine Idx.mk a ha' (by omega) (by omega) ?_
  refine Load.here (hc.one (k:=0) rfl) ?_
  refine aA.mk _ (hcon w1 hE _ (List.getElem_mem hkl)) ?_
  rintro v w2 ⟨rfl,hE2⟩
  refine Cond.mk (fun g2=>?_) (fun g2=>?_)
  ·refine And.intro ⟨(k:Int),rfl,?_⟩ (hE.trans hE2)
   have:l.any f=true:=List.any_eq_true.2 ⟨_,List.getElem_mem hkl,g2⟩
   simp[this]
  ·refine Ar.aM (k+1) (by omega) (by omega) ?_
   refine⟨k+1,⟨hE.trans hE2,by omega,?_⟩,by omega,rfl,rfl,rfl,rfl,trivial⟩
   rw[List.take_succ_eq_append_getElem hkl,List.any_append,ha]
   simp[g2]
 ·refine And.intro ⟨-1,rfl,?_⟩ hE
  have:k=l.length:=by omega
  rw[this,List.take_length]at ha
  simp[ha]
theorem wQ(v:Value)(l:List Nat)(w:World)(b:Nat→Nat)(f:Nat→Bool)(hl:∀w',Ext w w'→eO w' v 1 (ptrs b l))(hlen:l.length≤1000000000000)
  (hcon:∀w',Ext w w'→∀i∈l,bV Tryz.prog 57 #[fQ b i] w' (fun v' w''=>v'=.bool (f i)∧Ext w' w'')) :
  bV Tryz.prog 111 #[v,.func (.func 57) #[] #[]] w (fun v' w'=>v'=.bool (l.any f)∧Ext w w'):=by
 refine enter aB Tryz.func111 (aV rfl) rfl rfl rfl ?_
 refine aA.mk _ (IndexFunc57_con v l w b f hl hlen hcon) ?_
 rintro v1 w1 ⟨⟨n,rfl,hn⟩,hE⟩
 refine And.intro ?_ hE
 show Value.bool (decide (0≤n))=_
 congr 1
 cases h:l.any f
 ·rw[h]at hn;simp at hn;simp;omega
 ·rw[h]at hn;simp at hn;simp;omega
set_option maxHeartbeats 1600000 in
theorem twice_con(B:Nat)(own:Nat→Nat)(fo:Fo)(S:List PN)(hd:Down S)(hlen:∀(i:Nat) (s:PN),S[i]? = some s→s.attrs.length≤1000000000000∧s.kids.length≤1000000000000):∀(n i:Nat) (w:World),S.length≤n+i→i<S.length→iY w B own fo S→
  bV Tryz.prog 57 #[fQ fo.b i] w (fun v w'=>v=.bool (twB S n i)∧Ext w w')
 | 0,i,w,h1,h2,_=>absurd h1 (by omega)
 | n+1,i,w,h1,h2,hf=>by
   have hml:maxLen=9223372036854775807:=rfl
   obtain⟨s,hs⟩:∃s,S[i]? = some s:=⟨_,List.getElem?_eq_getElem h2⟩
   have hnb:=hf.nb i s hs
   have hnv:=hf.nv i s hs
   have hln:=hlen i s hs
   have hdn:=hd i s hs
   have hsp:twB S (n+1) i=(dupF [] (s.attrs.map (nameOf S))||s.kids.any (fun j=>twB S n j)):=by
    simp only[twB,hs]
   rw[hsp]
   obtain⟨oa,ca,hae,a1,a2,a3,-,-⟩:=hnv.va.shape
   rw[aW]at hae a1
   refine enter aB Tryz.func57 (aV rfl) rfl rfl rfl ?_
   refine Load.here (hnb.blk.cells.one (k:=5) rfl) ?_
   rw[hae]
   refine aH.mk (X:=Nat) (fun k=>[(0,fQ fo.b i),(10,.slice oa s.attrs.length ca),(11,.int .i64 s.attrs.length),(12,.int .i64 k)])
    (fun k w'=>Ext w w'∧k≤s.attrs.length∧dupF [] (s.attrs.map (nameOf S))=dupF ((s.attrs.take k).map (nameOf S)) ((s.attrs.drop k).map (nameOf S))) (fun k=>s.attrs.length-k) 0
    ⟨Ext.refl _,Nat.zero_le _,rfl⟩ ⟨rfl,rfl,rfl,rfl,trivial⟩ ?_
   rintro k w1 ⟨hE1,hk,hdup⟩
   have hf1:=hf.ext hE1
   refine Cond.dec (fun g1=>?_) (fun g1=>?_)
   rotate_left
   ·have hkl:k=s.attrs.length:=by omega
    rw[hkl,List.drop_length]at hdup
    refine Load.here ((hf1.nb i s hs).blk.cells.one (k:=6) rfl) ?_
    refine aA.mk _ (wQ _ s.kids w1 fo.b (fun j=>twB S n j) (fun w' hE=>((hf1.ext hE).nv i s hs).vk.sl) hln.2 (fun w' hE j hj=>by
     have:=hdn.2 j hj
     exact twice_con B own fo S hd hlen n j w' (by omega) this.2 (hf1.ext hE))) ?_
    rintro v w2 ⟨rfl,hE2⟩
    refine And.intro ?_ (hE1.trans hE2)
    rw[hdup]
    simp[dupF,aC]
   have hkl:k<s.attrs.length:=by omega
   have hva1:=(hf1.nv i s hs).va
   rw[hae]at hva1
   obtain⟨a,ha,hc⟩:=hva1.sl.el _ _ _ rfl k [fQ fo.b s.attrs[k]] (by simp[ptrs,hkl])
   have hjk:=hdn.1 _ (List.getElem_mem hkl)
   have hdup':dupF [] (s.attrs.map (nameOf S))=(((s.attrs.take k).map (nameOf S)).any (fun y=>decide (nameOf S s.attrs[k]=y))||dupF ((s.attrs.take (k+1)).map (nameOf S)) ((s.attrs.drop (k+1)).map (nameOf S))):=by
    rw[hdup,List.drop_eq_getElem_cons hkl,List.take_succ_eq_append_getElem hkl,List.map_cons,List.map_append]
    rfl
   generalize hj:s.attrs[k]=j at *
   obtain⟨sj,hsj⟩:∃sj,S[j]? = some sj:=⟨_,List.getElem?_eq_getElem hjk.2⟩
   have hnj:nameOf S j=sj.row.name:=by simp[nameOf,hsj]
   refine Idx.mk a ha (by omega) (by omega) ?_
   refine Load.here (hc.one (k:=0) rfl) ?_
   have hb5:Reads w1 ((⟨fo.b i,0,none⟩:Addr).add 5) 1 false (fo.va i):=(hf1.nb i s hs).blk.cells.one (k:=5) rfl
   rw[hae]at hb5
   refine Load.here hb5 ?_
   refine Need.mk ⟨by omega,by omega,by omega,by omega,by simp⟩ ?_
   refine aH.mk (X:=Nat) (fun m=>[(0,fQ fo.b i),(10,.slice oa s.attrs.length ca),(11,.int .i64 s.attrs.length),(12,.int .i64 k),(4,fQ fo.b j),(22,.slice oa k ca),(23,.int .i64 k),(24,.int .i64 m)])
    (fun m w'=>Ext w w'∧m≤k∧((s.attrs.take m).map (nameOf S)).any (fun y=>decide (nameOf S j=y))=false) (fun m=>k-m) 0
    ⟨hE1,Nat.zero_le _,rfl⟩ ⟨rfl,rfl,rfl,rfl,rfl,congrArg some (jG oa k ca),congrArg (fun x=>some (Value.int .i64 x)) (by omega),rfl,trivial⟩ ?_
   rintro m w2 ⟨hE2,hm,hany⟩
   have hf2:=hf.ext hE2
   refine Cond.dec (fun g2=>?_) (fun g2=>?_)
   rotate_left
   ·have hmk:m=k:=by omega
    subst hmk
    refine Ar.aM (m+1) (by omega) (by omega) ?_
    refine⟨m+1,⟨hE2,by omega,?_⟩,by omega,rfl,rfl,rfl,rfl,trivial⟩
    rw[hdup',hany,Bool.false_or]
   have hml2:m<s.attrs.length:=by omega
   have hva2:=(hf2.nv i s hs).va
   rw[hae]at hva2
   obtain⟨a',ha',hc'⟩:=hva2.sl.el _ _ _ rfl m [fQ fo.b s.attrs[m]] (by simp[ptrs,hml2])
   have hjm:=hdn.1 _ (List.getElem_mem hml2)
   have hany':((s.attrs.take (m+1)).map (nameOf S)).any (fun y=>decide (nameOf S j=y))=decide (nameOf S j=nameOf S s.attrs[m]):=by
    rw[List.take_succ_eq_append_getElem hml2,List.map_append,List.any_append,hany]
    simp
   generalize hjm':s.attrs[m]=q at *
   obtain⟨sq,hsq⟩:∃sq,S[q]? = some sq:=⟨_,List.getElem?_eq_getElem hjm.2⟩
   have hnq:nameOf S q=sq.row.name:=by simp[nameOf,hsq]
   refine Idx.mk a' ha' (by omega) (by omega) ?_
   refine Load.here (hc'.one (k:=0) rfl) ?_
   have hEd:=Ext.drew w2
   have hfd:=hf2.ext hEd
   refine aQ.mk aB mixed (allT 0 11) [] (by kernel_rfl) (fun w'=>w'=w2.drew) rfl ?_
   refine Load.here ((hfd.nb j sj hsj).blk.cells.one (k:=1) rfl) ?_
   refine Load.here ((hfd.nb q sq hsq).blk.cells.one (k:=1) rfl) ?_
   refine Cond.dec (fun g3=>?_) (fun g3=>?_)
   ·refine And.intro ?_ (hE2.trans hEd)
    have hmem:((s.attrs.take k).map (nameOf S)).any (fun y=>decide (nameOf S j=y))=true:=by
     refine List.any_eq_true.2 ⟨nameOf S q,List.mem_map.2 ⟨q,?_,rfl⟩,?_⟩
     ·rw[←hjm'];exact List.mem_take_iff_getElem.2 ⟨m,by omega,rfl⟩
     ·rw[hnj,hnq];simp[g3]
    rw[hdup',hmem]
    simp[aC]
   ·refine Ar.aM (m+1) (by omega) (by omega) ?_
    refine⟨m+1,⟨hE2.trans hEd,by omega,?_⟩,by omega,rfl,rfl,rfl,rfl,rfl,rfl,rfl,rfl,trivial⟩
    rw[hany',hnj,hnq]
    simp[g3]
def nC(f:Nat→Int→Nat→List Nd)(par:Nat):Nat→List Nat→List Nd
 | _,[]=>[]
 | pos,j::r=>f j par pos++nC f par (pos+(f j par pos).length) r
def tg(S:List PN):Nat→Nat→Int→Nat→List Nd
 | 0,_,_,_=>[]
 | n+1,i,par,pos=>match S[i]? with
   | none=>[]
   | some s=>withParent s.row par::nC (tg S n) pos (pos+1) (s.attrs++s.kids)
def Alike(S S':List PN):Prop:=S.length=S'.length∧∀(i:Nat) (s:PN),S[i]? = some s→∃p:Int,S'[i]? = some { s with row:=withParent s.row p }
theorem Alike.refl(S:List PN):Alike S S:=⟨rfl,fun i s h=>⟨s.row.parent,h⟩⟩
theorem Alike.trans{A B C:List PN}(h:Alike A B)(k:Alike B C):Alike A C:=⟨h.1.trans k.1,fun i s hs=>by
 obtain⟨p,hp⟩:=h.2 i s hs
 obtain⟨q,hq⟩:=k.2 i _ hp
 exact⟨q,hq⟩⟩
theorem alike_set{S:List PN}{i:Nat}{s:PN}(h:S[i]? = some s)(p:Int):Alike S (S.set i { s with row:=withParent s.row p }):=by
 refine⟨by simp,fun j t ht=>?_⟩
 rw[List.getElem?_set]
 by_cases e:i=j
 ·subst e
  rw[h]at ht
  cases ht
  exact⟨p,by rw[if_pos rfl,if_pos (List.getElem?_eq_some_iff.1 h).1]⟩
 ·exact⟨t.row.parent,by rw[if_neg e];exact ht⟩
theorem tgL_congr{f g:Nat→Int→Nat→List Nd}(h:∀j p q,f j p q=g j p q)(par:Nat):∀(pos:Nat) (l:List Nat),nC f par pos l=nC g par pos l
 | _,[]=>rfl
 | pos,j::r=>by simp only[nC,h,tgL_congr h par _ r]
theorem tg_alike{S S':List PN}(h:Alike S S'):∀(n i:Nat) (par:Int) (pos:Nat),tg S n i par pos=tg S' n i par pos
 | 0,_,_,_=>rfl
 | n+1,i,par,pos=>by
   simp only[tg]
   cases hs:S[i]? with
   | none=>
     have hl:S'[i]? = none:=by
      rw[List.getElem?_eq_none_iff]at hs ⊢
      rw[←h.1];exact hs
     rw[hl]
   | some s=>
     obtain⟨p,hp⟩:=h.2 i s hs
     rw[hp]
     simp only
     rw[tgL_congr (fun j p q=>tg_alike h n j p q)]
     rfl
theorem qJ(f:Nat→Int→Nat→List Nd)(par:Nat):∀(pos:Nat) (l m:List Nat),nC f par pos (l++m)=nC f par pos l++nC f par (pos+(nC f par pos l).length) m
 | _,[],_=>by simp[nC]
 | pos,j::r,m=>by
   simp only[List.cons_append,nC,qJ f par _ r m,List.append_assoc,List.length_append]
   rw[Nat.add_assoc]
theorem Down.alike{S S':List PN}(h:Down S)(ha:Alike S S'):Down S':=fun i s' hs'=>by
 have hi:i<S.length:=by rw[ha.1];exact(List.getElem?_eq_some_iff.1 hs').1
 obtain⟨s,hs⟩:∃s,S[i]? = some s:=⟨_,List.getElem?_eq_getElem hi⟩
 obtain⟨p,hp⟩:=ha.2 i s hs
 rw[hp]at hs'
 cases hs'
 rw[←ha.1]
 exact h i s hs
structure PutOk(D:Nat)(w w':World)(B:Nat)(own:Nat→Nat)(fo:Fo)(S S':List PN)(bo bp:Nat)(out:List Nd):Prop where
 ch:Below D w w'
 foat:iY w' B own fo S'
 alike:Alike S S'
 box:bQ w' bp [.func (.func 112) #[] #[.pointer (some ⟨bo,0,none⟩),.pointer (some ⟨bp,0,none⟩)]] 151
 vo:∃vo,bQ w' bo [vo] 31∧Vec w' D 50 4 vo (out.map Nd.cells)∧fK own vo 0∧vo.ownBlock≠some bo∧vo.ownBlock≠some bp
def RowsWf(S:List PN):Prop:=∀(i:Nat) (s:PN),S[i]? = some s→s.row.Wf∧s.attrs.length≤1000000000000∧s.kids.length≤1000000000000
theorem RowsWf.alike{S S':List PN}(h:RowsWf S)(ha:Alike S S')(hp:True):∀(i:Nat) (s:PN),S'[i]? = some s→s.attrs.length≤1000000000000∧s.kids.length≤1000000000000:=fun i s' hs'=>by
 have hi:i<S.length:=by rw[ha.1];exact(List.getElem?_eq_some_iff.1 hs').1
 obtain⟨s,hs⟩:∃s,S[i]? = some s:=⟨_,List.getElem?_eq_getElem hi⟩
 obtain⟨p,hp⟩:=ha.2 i s hs
 rw[hp]at hs'
 cases hs'
 exact(h i s hs).2
def PutC(D B:Nat)(own:Nat→Nat)(fo:Fo)(bo bp n:Nat):Prop:=∀(i:Nat) (par:Int) (S:List PN) (out:List Nd) (w:World),Down S→
  (∀(i:Nat) (s:PN),S[i]? = some s→s.attrs.length≤1000000000000∧s.kids.length≤1000000000000)→S.length≤n+i→i<S.length→PutOk D w w B own fo S S bo bp out→D≤w.heap.size→out.length+(tg S n i par out.length).length≤1000000000000→
  bV Tryz.prog 112 #[fQ fo.b i,.int .i64 par,.pointer (some ⟨bo,0,none⟩),.pointer (some ⟨bp,0,none⟩)] w
   (fun v w'=>v=.tuple #[]∧∃S',PutOk D w w' B own fo S S' bo bp (out++tg S n i par out.length))
set_option maxHeartbeats 3200000 in
theorem put_step(D B:Nat)(own:Nat→Nat)(fo:Fo)(bo bp:Nat)(hDo:D≤bo)(hDp:D≤bp)(hob:own bo=0)(hpb:own bp=0)(hne:bo≠bp)(hBD:D≤B)(n:Nat)(ih:PutC D B own fo bo bp n):PutC D B own fo bo bp (n+1):=by
  intro i par S out w hd hln h1 h2 hP hDw hlen
  have hml:maxLen=9223372036854775807:=rfl
  obtain⟨s,hs⟩:∃s,S[i]? = some s:=⟨_,List.getElem?_eq_getElem h2⟩
  obtain⟨vo,hbo,hvo,hto,hno,hnp⟩:=hP.vo
  have hnb:=hP.foat.nb i s hs
  have hsln:=hln i s hs
  have htgs:tg S (n+1) i par out.length=withParent s.row par::nC (tg S n) out.length (out.length+1) (s.attrs++s.kids):=by
   simp only[tg,hs]
  rw[htgs]at hlen ⊢
  have hout:∀(w:World),(Value.slice none 0 0).ownBlock=none:=fun _=>rfl
  obtain⟨oo,co,hoe,-,-,-,-,-⟩:=hvo.shape
  rw[List.length_map]at hoe
  refine enter aB Tryz.func112 (aV rfl) rfl rfl rfl ?_
  refine Load.here (hbo.cells.one (k:=0) rfl) ?_
  rw[hoe]
  refine bA.store (fo.b i) 3 _ [.int .i64 par] 145 rfl rfl (by kernel_rfl) hnb.blk (by simp[PN.cells,Nd.cells]) (fun y hy=>by rw[List.mem_singleton.1 hy];rfl) fun w1 hU1=>?_
  have hf1:=hP.foat.put (s':={ s with row:=withParent s.row par }) hs hU1 rfl rfl rfl
  have hal1:=alike_set hs par
  obtain⟨S1,hS1⟩:∃S1,S.set i { s with row:=withParent s.row par }=S1:=⟨_,rfl⟩
  rw[hS1]at hf1 hal1
  have hs1:S1[i]? = some { s with row:=withParent s.row par }:=by
   rw[←hS1,List.getElem?_set,if_pos rfl,if_pos h2]
  have hbi0:own (fo.b i)=3*i+1:=hnb.tag
  have hbo1:=hU1.aF hbo (fun e=>by rw[←e,hob]at hbi0;omega)
  have hbp1:=hU1.aF hP.box (fun e=>by rw[←e,hpb]at hbi0;omega)
  have hvo1:=hvo.upd hU1 (fun e=>by have:=hto _ e;omega)
  have hB1:Below D w w1:=hU1.below (Nat.le_trans hBD hnb.ge)
  have hEd:=Ext.drew w1
  have hbod:=hbo1.ext hEd
  have hfd:=hf1.ext hEd
  have hnbd:=hfd.nb i _ hs1
  refine aQ.mk aB mixed [(0,true),(1,true),(2,true),(3,true),(4,true),(5,false),(6,false),(7,false)] [6,7] (by kernel_rfl) (fun w'=>Ext w1.drew w') (Ext.refl _) ?_
  refine .mk vo (fun _ e=>(hbod.ext e).cells.one (k:=0) rfl) ?_
  refine .mk _ (fun _ e=>(((hnbd.blk.ext e).cells.part 0 4).all' rfl)) ?_
  have hrun:=aY (.int .u8 s.row.kind) (.string s.row.name) (.string s.row.value) (.int .i64 par) w1.drew
  obtain⟨w2,hw2⟩:∃w',w'=w1.drew.alloc (.cells #[.int .u8 s.row.kind,.string s.row.name,.string s.row.value,.int .i64 par] 50):=⟨_,rfl⟩
  rw[←hw2]at hrun
  refine aG.mk _ w2 hrun ?_
  have n2:bO w1.drew w1.drew.heap.size (Nd.cells (withParent s.row par)) 50 w2:=⟨rfl,hw2⟩
  have hsz1:D≤w1.drew.heap.size:=Nat.le_trans hDw hB1.size
  have s2:=n2.sz
  refine Need.mk n2.ext ?_
  refine bD.append bI D _ [Nd.cells (withParent s.row par)] ((hvo1.ext hEd).ext n2.ext) (aT n2) (by
   intro y hy
   rw[List.mem_singleton.1 hy]
   exact⟨rfl,Nd.cells_one _⟩) (by simp at hlen ⊢;omega) (by simp at hlen ⊢;omega) (by omega) fun vo' w3 hvo3 har=>?_
  have hf3:=(hfd.ext n2.ext).ch (.cO har (fun g hg=>hg)) (fun g _ hm=>hto g hm)
  have hbo3:=har.blk (hbod.ext n2.ext) hno
  have hbp3:=har.blk ((hbp1.ext hEd).ext n2.ext) hnp
  obtain⟨oo',co',hoe',-,-,-,-,-⟩:=hvo3.shape
  have lbo:=hbo.lt
  have lbp:=hP.box.lt
  have hsz01:=hB1.size
  have hdsz:w1.drew.heap.size=w1.heap.size:=rfl
  refine bA.store bo 0 _ [vo'] 31 rfl (by rw[hoe'];rfl) (by kernel_rfl) hbo3 (by simp) (fun y hy=>by rw[List.mem_singleton.1 hy,hoe'];rfl) fun w4 hU4=>?_
  have hfr:∀g,vo'.ownBlock=some g→vo.ownBlock=some g∨w2.heap.size≤g:=har.fresh
  have hP4:PutOk D w w4 B own fo S S1 bo bp (out++[withParent s.row par]):=by
   refine⟨(((hB1.drew.trans (n2.ext.below hsz1)).trans (har.below (by omega) fun g hg=>(hvo.ge hg).1)).trans (hU4.below hDo)),hf3.ch (M:=fun k=>k=bo) (.bG hU4 rfl) (fun g _ (e:g=bo)=>by rw[e];exact hob),hal1,hU4.aF hbp3 (Ne.symm hne),vo',hU4.blk,?_,?_,?_,?_⟩
   ·have:=hvo3.upd hU4 (fun e=>by
     rcases hfr bo e with h|h
     ·exact hno h
     ·omega)
    simpa using this
   ·intro g hg
    rcases hfr g hg with h|h
    ·exact hto g h
    ·exact hfd.fresh g (by omega)
   ·intro e
    rcases hfr bo e with h|h
    ·exact hno h
    ·omega
   ·intro e
    rcases hfr bp e with h|h
    ·exact hnp h
    ·omega
  obtain⟨oF,hoF⟩:∃oF:List Nat→List Nd,oF=fun l=>out++withParent s.row par::nC (tg S n) out.length (out.length+1) l:=⟨_,rfl⟩
  have hoF0:oF []=out++[withParent s.row par]:=by rw[hoF];rfl
  have hoFs:∀(l:List Nat) (j:Nat),oF (l++[j])=oF l++tg S n j out.length (oF l).length:=fun l j=>by
   rw[hoF]
   simp only[qJ,nC,List.append_nil,List.length_append,List.length_cons]
   rw[show out.length+1+(nC (tg S n) out.length (out.length+1) l).length=out.length+((nC (tg S n) out.length (out.length+1) l).length+1)by omega]
   simp
  have hoFle:∀(l m:List Nat),(oF l).length≤(oF (l++m)).length:=fun l m=>by
   rw[hoF]
   simp only[qJ,List.length_append,List.length_cons]
   omega
  have hoFend:(oF (s.attrs++s.kids)).length≤1000000000000:=by
   rw[hoF]
   simp only[List.length_append,List.length_cons]at hlen ⊢
   omega
  rw[←hoF0]at hP4
  have hDall:∀(w':World),Below D w w'→D≤w'.heap.size:=fun w' h=>Nat.le_trans hDw h.size
  have child:∀(S2:List PN) (w5:World) (l m:List Nat) (j:Nat),PutOk D w w5 B own fo S S2 bo bp (oF l)→l++j::m=s.attrs++s.kids→i<j→j<S.length→
    bV Tryz.prog 112 #[fQ fo.b j,.int .i64 out.length,.pointer (some ⟨bo,0,none⟩),.pointer (some ⟨bp,0,none⟩)] w5 (fun v w'=>v=.tuple #[]∧∃S3,PutOk D w w' B own fo S S3 bo bp (oF (l++[j]))):=fun S2 w5 l m j hP2 hlm hij hjl=>by
   have hls:=hP2.alike.1
   have h12:(oF (l++[j])).length≤1000000000000:=by
    have:=hoFle (l++[j]) m
    rw[List.append_assoc,List.singleton_append,hlm]at this
    omega
   rw[hoFs]at h12
   have hto2:=fun(a b:Nat)=>tg_alike hP2.alike n j (a:Int) b
   refine(ih j out.length S2 (oF l) w5 (hd.alike hP2.alike) (fun i' s' hs'=>by
    have hi':i'<S.length:=by rw[hls];exact(List.getElem?_eq_some_iff.1 hs').1
    obtain⟨s0,hs0⟩:∃s0,S[i']? = some s0:=⟨_,List.getElem?_eq_getElem hi'⟩
    obtain⟨p,hp⟩:=hP2.alike.2 i' s0 hs0
    rw[hp]at hs'
    cases hs'
    exact hln i' s0 hs0) (by omega) (by omega) ⟨Below.refl _ _,hP2.foat,Alike.refl _,hP2.box,hP2.vo⟩ (hDall _ hP2.ch) (by rw[←hto2,←List.length_append];exact h12)).mono ?_
   rintro v w6 ⟨hv,S3,hP3⟩
   refine⟨hv,S3,hP2.ch.trans hP3.ch,hP3.foat,hP2.alike.trans hP3.alike,hP3.box,?_⟩
   rw[hoFs,hto2]
   exact hP3.vo
  have hsAt:∀(S2:List PN),Alike S S2→∃s2,S2[i]? = some s2∧s2.attrs=s.attrs∧s2.kids=s.kids:=fun S2 ha=>by
   obtain⟨p,hp⟩:=ha.2 i s hs
   exact⟨_,hp,rfl,rfl⟩
  have hdn:=hd i s hs
  obtain⟨sA,hsA,hA1,hA2⟩:=hsAt S1 hP4.alike
  have hvA:=(hP4.foat.nv i sA hsA).va
  rw[hA1]at hvA
  obtain⟨oa,ca,hae,-,-,-,-,-⟩:=hvA.shape
  rw[aW]at hae
  refine Load.here ((hP4.foat.nb i sA hsA).blk.cells.one (k:=5) rfl) ?_
  rw[hae]
  refine aH.mk (X:=Nat × List PN) (fun x=>[(0,fQ fo.b i),(2,.pointer (some ⟨bo,0,none⟩)),(3,.pointer (some ⟨bp,0,none⟩)),(6,.int .i64 out.length),(28,.slice oa s.attrs.length ca),(29,.int .i64 s.attrs.length),(30,.int .i64 x.1)])
   (fun x w'=>x.1≤s.attrs.length∧PutOk D w w' B own fo S x.2 bo bp (oF (s.attrs.take x.1))) (fun x=>s.attrs.length-x.1) (0,S1) ⟨Nat.zero_le _,hP4⟩ ⟨rfl,rfl,rfl,rfl,rfl,rfl,rfl,trivial⟩ ?_
  rintro⟨k,S2⟩ w5 ⟨hk,hP5⟩
  simp only at hk hP5 ⊢
  refine Cond.dec (fun g1=>?_) (fun g1=>?_)
  ·have hkl:k<s.attrs.length:=by omega
   obtain⟨s2,hs2,h21,h22⟩:=hsAt S2 hP5.alike
   have hv5:=(hP5.foat.nv i s2 hs2).va
   rw[h21,hae]at hv5
   obtain⟨a,ha,hc⟩:=hv5.sl.el _ _ _ rfl k [fQ fo.b s.attrs[k]] (by simp[ptrs,hkl])
   have hj:=hdn.1 _ (List.getElem_mem hkl)
   refine Idx.mk a ha (by omega) (by omega) ?_
   refine Load.here (hc.one (k:=0) rfl) ?_
   refine Load.here (hP5.box.cells.one (k:=0) rfl) ?_
   refine aA.mk _ (child S2 w5 (s.attrs.take k) (s.attrs.drop (k+1)++s.kids) s.attrs[k] hP5 (by
    rw[←List.cons_append,←List.drop_eq_getElem_cons hkl,←List.append_assoc,List.take_append_drop]) hj.1 hj.2) ?_
   rintro v w6 ⟨rfl,S3,hP6⟩
   refine Ar.aM (k+1) (by omega) (by omega) ?_
   refine⟨(k+1,S3),⟨by show k+1≤_;omega,?_⟩,by show s.attrs.length-(k+1)<s.attrs.length-k;omega,rfl,rfl,rfl,rfl,rfl,rfl,rfl,trivial⟩
   simp only
   rw[List.take_succ_eq_append_getElem hkl]
   exact hP6
  have hkl:k=s.attrs.length:=by omega
  rw[hkl,List.take_length]at hP5
  obtain⟨sK,hsK,hK1,hK2⟩:=hsAt S2 hP5.alike
  have hvK:=(hP5.foat.nv i sK hsK).vk
  rw[hK2]at hvK
  obtain⟨ok,ck,hke,-,-,-,-,-⟩:=hvK.shape
  rw[aW]at hke
  refine Load.here ((hP5.foat.nb i sK hsK).blk.cells.one (k:=6) rfl) ?_
  rw[hke]
  refine aH.mk (X:=Nat × List PN) (fun x=>[(0,fQ fo.b i),(2,.pointer (some ⟨bo,0,none⟩)),(3,.pointer (some ⟨bp,0,none⟩)),(6,.int .i64 out.length),(42,.slice ok s.kids.length ck),(43,.int .i64 s.kids.length),(44,.int .i64 x.1)])
   (fun x w'=>x.1≤s.kids.length∧PutOk D w w' B own fo S x.2 bo bp (oF (s.attrs++s.kids.take x.1))) (fun x=>s.kids.length-x.1) (0,S2) ⟨Nat.zero_le _,by simpa using hP5⟩ ⟨rfl,rfl,rfl,rfl,rfl,rfl,rfl,trivial⟩ ?_
  rintro⟨m,S3⟩ w6 ⟨hm,hP6⟩
  simp only at hm hP6 ⊢
  refine Cond.dec (fun g2=>?_) (fun g2=>?_)
  ·have hml2:m<s.kids.length:=by omega
   obtain⟨s2,hs2,h21,h22⟩:=hsAt S3 hP6.alike
   have hv6:=(hP6.foat.nv i s2 hs2).vk
   rw[h22,hke]at hv6
   obtain⟨a,ha,hc⟩:=hv6.sl.el _ _ _ rfl m [fQ fo.b s.kids[m]] (by simp[ptrs,hml2])
   have hj:=hdn.2 _ (List.getElem_mem hml2)
   refine Idx.mk a ha (by omega) (by omega) ?_
   refine Load.here (hc.one (k:=0) rfl) ?_
   refine Load.here (hP6.box.cells.one (k:=0) rfl) ?_
   refine aA.mk _ (child S3 w6 (s.attrs++s.kids.take m) (s.kids.drop (m+1)) s.kids[m] hP6 (by
    rw[←List.drop_eq_getElem_cons hml2,List.append_assoc,List.take_append_drop]) hj.1 hj.2) ?_
   rintro v w7 ⟨rfl,S4,hP7⟩
   refine Ar.aM (m+1) (by omega) (by omega) ?_
   refine⟨(m+1,S4),⟨by show m+1≤_;omega,?_⟩,by show s.kids.length-(m+1)<s.kids.length-m;omega,rfl,rfl,rfl,rfl,rfl,rfl,rfl,trivial⟩
   simp only
   rw[List.take_succ_eq_append_getElem hml2,←List.append_assoc]
   exact hP7
  have hml2:m=s.kids.length:=by omega
  rw[hml2,List.take_length,hoF]at hP6
  exact And.intro rfl ⟨S3,hP6⟩
theorem put_con(D B:Nat)(own:Nat→Nat)(fo:Fo)(bo bp:Nat)(hDo:D≤bo)(hDp:D≤bp)(hob:own bo=0)(hpb:own bp=0)(hne:bo≠bp)(hBD:D≤B)(n:Nat):PutC D B own fo bo bp n:=by
 induction n with
 | zero=>exact fun i par S out w _ _ h1 h2=>absurd h1 (by omega)
 | succ n ih=>exact put_step D B own fo bo bp hDo hDp hob hpb hne hBD n ih
theorem together_con(i:Nat)(w:World)(B D:Nat)(own:Nat→Nat)(fo:Fo)(S:List PN)(hf:iY w B own fo S)(hd:Down S)(hln:∀(i:Nat) (s:PN),S[i]? = some s→s.attrs.length≤1000000000000∧s.kids.length≤1000000000000)
  (hi:i<S.length) (hDB:D≤B) (hDw:D≤w.heap.size) (hlen:(tg S S.length i (-1) 0).length≤1000000000000) :
  bV Tryz.prog 58 #[fQ fo.b i] w (fun v w'=>Vec w' D 50 4 v ((tg S S.length i (-1) 0).map Nd.cells)∧Below D w w'):=by
 refine enter aB Tryz.func58 (aV rfl) rfl rfl rfl ?_
 refine aG.alloc (.slice none 0 0) [.slice none 0 0] (by unfold fJ;kernel_rfl) rfl fun bo w1 n1=>?_
 refine aG.alloc .nilFunc [.nilFunc] (by unfold fJ;kernel_rfl) rfl fun bp w2 n2=>?_
 have ebo:=n1.b_eq
 have ebp:=n2.b_eq
 have s1:=n1.sz
 have s2:=n2.sz
 refine bA.store bp 0 _ [.func (.func 112) #[] #[.pointer (some ⟨bo,0,none⟩),.pointer (some ⟨bp,0,none⟩)]] 151 rfl rfl (by kernel_rfl) n2.blk (by simp) (fun y hy=>by rw[List.mem_singleton.1 hy];rfl) fun w3 hU3=>?_
 have hE2:Ext w w2:=n1.ext.trans n2.ext
 have hE3:Ext w w3:=hE2.upd hU3 (by omega)
 have hf3:=hf.ext hE3
 have hbo3:=hU3.aF (n1.blk.ext n2.ext) (by omega)
 refine Load.here (hU3.blk.cells.one (k:=0) rfl) ?_
 refine aA.mk _ (put_con D B own fo bo bp (by omega) (by omega) (hf.fresh bo (by omega)) (hf.fresh bp (by omega)) (by omega) hDB S.length i (-1) S [] w3 hd hln (by omega) hi
  ⟨Below.refl _ _,hf3,Alike.refl _,hU3.blk,.slice none 0 0,hbo3,Vec.nil _ _ _ _,(fun g h=>by cases h),(fun h=>by cases h),(fun h=>by cases h)⟩ (by have:=hU3.sz;omega) (by simpa using hlen)) ?_
 rintro v w4 ⟨rfl,S',hP⟩
 obtain⟨vo,hbo,hvo,-,-,-⟩:=hP.vo
 refine Load.here (hbo.cells.one (k:=0) rfl) ?_
 exact⟨hvo,(hE3.below hDw).trans hP.ch⟩
end Go.Proofs.YtelffdgcikceaaaGreatDoor
end
section
namespace Go.V
open Go.RowKit (Below)
section
variable {P:Program}
def subs(g lo n cap:Nat):Value:=.slice (some ⟨g,if cap=lo then 0 else lo,none⟩) (n-lo) (cap-lo)
theorem gT(g lo n cap:Nat):Value.slice (if(cap:Int).toNat=(lo:Int).toNat then some ⟨g,0,none⟩else(some (⟨g,0,none⟩:Addr)).map (fun x=>x.add ((lo:Int).toNat*1))) ((n:Int).toNat-(lo:Int).toNat) ((cap:Int).toNat-(lo:Int).toNat)=subs g lo n cap:=by
 unfold subs
 simp only[Int.toNat_natCast,Option.map_some,bW,Nat.zero_add,Nat.mul_one]
 split<;>rfl
def SrcV(w:World)(v:Value)(len:Nat)(cs:List Value):Prop:=
 ∃o cap,v=.slice o len cap∧(o=none→len=0)∧(∀a,o=some a→∀j u,cs[j]? = some u→w.cell? (a.add j)=some u)∧∀u∈cs,u.oneCell'=true
theorem SrcV.of_sl{w:World}{v:Value}{xs:List (List Value)}(h:eO w v 1 xs)(h1:∀y∈xs,y.length=1∧∀u∈y,u.oneCell'=true):SrcV w v xs.length xs.flatten:=by
 obtain⟨o,cap,rfl,hle,hcap,hnil⟩:=h.ex
 refine⟨o,cap,rfl,fun e=>by have:=hnil e;omega,fun a ha j u hj=>?_,fun u hu=>?_⟩
 ·subst ha
  exact vD (h.el _ _ _ rfl) (fun y hy=>(h1 y hy).1) (by decide) j u hj
 ·obtain⟨y,hy,huy⟩:=List.mem_flatten.1 hu
  exact(h1 y hy).2 u huy
theorem SrcV.sub{w:World}{g lo n cap:Nat}{cur cs:List Value}{t:TypeId}(hb:bQ w g cur t)(hlo:lo≤n)(hn:n≤cap)(hc:cur.length=cap){v:Value}(hv:v=subs g lo n cap)(k:Nat)(hk:k≤n-lo)(hcs:cs=(cur.drop lo).take k)
  (h1:∀u∈cs,u.oneCell'=true):SrcV w v (n-lo) cs:=by
 subst hv
 refine⟨_,_,rfl,(fun e=>by cases e),fun a ha j u hj=>?_,h1⟩
 cases ha
 rw[bW,hb.cell]
 rw[hcs,List.getElem?_take,List.getElem?_drop]at hj
 split at hj
 ·by_cases e:cap=lo
  ·omega
  ·rw[if_neg e];exact hj
 ·cases hj
theorem mK.same{w:World}{g:Nat}{cur:List Value}{t:TypeId}(hb:bQ w g cur t)(lo:Nat):mK w g (splice cur lo []) t w:=by
 refine⟨⟨_,hb⟩,?_⟩
 have:splice cur lo []=cur:=by simp[splice]
 rw[this]
 exact(setRow_self w g _ t (0,0) hb).symm
theorem bD.copy{t e:TypeId}(ht:P.underlying t=some (.slice e))(hsz:(P.info? e).map (·.size)=some 1){w:World}{ty:Nat}{consts:Array Bool}{k:Value→World→Prop}{dst src:Value}(g lo n cap sLen:Nat)(cur cs:List Value){te:TypeId}
  (hd:dst=subs g lo n cap) (hb:bQ w g cur te) (hlo:lo≤n) (hn:n≤cap) (hc:cur.length=cap) (hs:SrcV w src sLen cs) (hcs:cs.length=min sLen (n-lo)) (hk:∀w',mK w g (splice cur lo cs) te w'→k (.int .i64 cs.length) w') :
  bD P (builtin .copy #[t,t] ty consts #[dst,src]) w k:=by
 subst hd
 obtain⟨o,c2,rfl,hnil,hcell,h1⟩:=hs
 by_cases h0:min sLen (n-lo)=0
 ·have hnl:cs=[]:=List.eq_nil_of_length_eq_zero (by omega)
  have hrun:=run_copy_none (P:=P) w t t ty e (some ⟨g,if cap=lo then 0 else lo,none⟩) o (n-lo) (cap-lo) sLen c2 ht hsz h0
  refine .mk (goInt 0) w ?_ ?_
  ·unfold subs
   simp only[builtin,Sem.run_bind,hrun,Result.andThen_ok,Sem.run_pure]
  ·have:=hk w (by rw[hnl];exact mK.same hb lo)
   rw[hnl]at this
   exact this
 ·cases o with
  | none=>have:=hnil rfl;omega
  | some a=>
    have hne:¬(cap=lo):=by omega
    have hrun:=run_copy_row (P:=P) w t t ty e g lo (n-lo) (cap-lo) a sLen c2 cur.toArray te cs ht hsz hb hcs (hcell a rfl) (by simp;omega) h1
    refine .mk (goInt cs.length) _ ?_ (hk _ ⟨⟨_,hb⟩,rfl⟩)
    unfold subs
    rw[if_neg hne]
    simp only[builtin,Sem.run_bind,hrun,Result.andThen_ok,Sem.run_pure,splice,List.toList_toArray]
theorem bD.clear{t e:TypeId}(ht:P.underlying t=some (.slice e)){z:Value}(hz:fJ P e z)(hzc:z.cells=#[z])(hz1:z.oneCell'=true){w:World}{ty:Nat}{consts:Array Bool}{k:Value→World→Prop}{v:Value}(g lo n cap:Nat)(cur:List Value){te:TypeId}
  (hd:v=subs g lo n cap) (hb:bQ w g cur te) (hlo:lo≤n) (hn:n≤cap) (hc:cur.length=cap) (hk:∀w' x,mK w g (splice cur lo (List.replicate (n-lo) z)) te w'→k x w') :
  bD P (builtin .clear #[t] ty consts #[v]) w k:=by
 subst hd
 obtain⟨m,hm⟩:∃m,m=n-lo:=⟨_,rfl⟩
 rw[←hm]at hk
 cases m with
 | zero=>
   refine .mk (.tuple #[]) w ?_ (hk w _ (mK.same hb lo))
   unfold subs
   simp[builtin,Builtin.clear_,run_underlying ht,←hm]
 | succ m=>
   have hne:¬(cap=lo):=by omega
   have hzl:(Builtin.zeroCells z.cells (m+1)).toList=List.replicate (m+1) z:=by
    rw[hzc]
    simp[Builtin.zeroCells]
    apply List.ext_getElem
    ·simp
    ·intro i h1 h2
     simp[Nat.mod_one]
   have hst:=run_storeCells_at (P:=P) g lo te (List.replicate (m+1) z) 0 cur.toArray w hb (by simp;omega) (by intro v hv';rw[List.eq_of_mem_replicate hv'];exact hz1)
   refine .mk (.tuple #[]) _ ?_ (hk _ _ ⟨⟨_,hb⟩,rfl⟩)
   unfold subs
   rw[if_neg hne]
   simp only[Nat.add_zero,List.toList_toArray]at hst
   simp[builtin,Builtin.clear_,run_underlying ht,←hm,y5 hz,hzl,hst,splice]
theorem bD.cap{t e:TypeId}(ht:P.underlying t=some (.slice e)){w:World}{ty:Nat}{consts:Array Bool}{k:Value→World→Prop}{o:Option Addr}{n c:Nat}(hk:k (.int .i64 c) w):bD P (builtin .cap #[t] ty consts #[.slice o n c]) w k:=by
 refine .mk (goInt c) w ?_ hk
 simp[builtin,Builtin.cap_,run_underlying ht]
theorem bD.appendZ{t tn e:TypeId}{q:IntKind}{bytes:Nat}(hE:lG P t e 1 bytes)(htn:P.underlying tn=some (.int q)){z:Value}(hz:fJ P e z)(hzc:z.cells=#[z]){w:World}{ty:Nat}{consts:Array Bool}{k:Value→World→Prop}{v:Value}(g i cap m:Nat)(cur:List Value){te:TypeId}
  (tot:Nat) (ht:i+m=tot) (hd:v=.slice (some ⟨g,0,none⟩) i cap) (hb:bQ w g cur te) (hi:i≤cap) (hc:cur.length=cap) (hm:0<m) (hg:cap<i+m) (h63:i+m≤maxLen) (hbig:(i+m)*bytes≤140737488355328)
  (hk:∀G w',tot≤G→G≤maxLen→bO w.drew w.heap.size (cur.take i++List.replicate (G-i) z) e w'→k (.slice (some ⟨w.heap.size,0,none⟩) tot G) w') :
  bD P (builtin .append #[t,tn] ty consts #[v,.int .i64 m]) w k:=by
 subst hd
 subst ht
 obtain⟨inf,z',hinf,hz',hsz,hby,-⟩:=hE.info
 have hml:maxLen=9223372036854775807:=rfl
 have hzz:z'=z:=by
  unfold fJ at hz
  rw[hinf]at hz
  simp only[Option.bind_some]at hz
  rw[hz']at hz
  cases hz
  rfl
 subst hzz
 have hold:(Builtin.firstCells inf.size i (.slice (some ⟨g,0,none⟩) i cap)).run P w.drew=.ok (cur.take i).toArray w.drew:=
  run_firstCells_some w.drew inf.size i ⟨g,0,none⟩ i cap (cur.take i) (by rw[List.length_take,hsz];omega) (fun j u hj=>by
   have hbd:bQ w.drew g cur te:=hb.ext (Ext.drew w)
   rw[bW,hbd.cell,Nat.zero_add]
   rw[List.getElem?_take]at hj
   split at hj
   ·exact hj
   ·cases hj)
 have hm48:m*bytes≤140737488355328:=Nat.le_trans (Nat.mul_le_mul_right _ (by omega)) hbig
 have hrun:=Lib.run_append_grow_zeros (P:=P) w t tn ty e inf z' .i64 q hE.sl htn hinf hz' (some ⟨g,0,none⟩) i cap (cur.take i) hold m hm (by omega) hg (by omega) (by rw[hby];omega) (growslice_fits hg (by rw[hby];exact hbig))
 have hG1:=grownCap_ge w (i+m) cap e
 have hG2:=grownCap_le_maxLen w (i+m) cap e h63
 refine .mk _ _ ?_ (hk (grownCap w (i+m) cap e) _ hG1 hG2 ⟨rfl,rfl⟩)
 simp only[builtin,Sem.run_bind,hrun,Result.andThen_ok,Sem.run_pure]
 congr 3
 have hrep:∀n,Builtin.zeroCells z'.cells n=(List.replicate n z').toArray:=fun n=>by
  rw[hzc]
  simp[Builtin.zeroCells]
  apply Array.ext
  ·simp
  ·intro i h1 h2
   simp[Nat.mod_one]
 rw[hrep,hrep]
 apply Array.ext'
 simp only[Array.toList_append,List.toList_toArray,List.append_assoc,List.replicate_append_replicate]
 congr 2
 omega
end
end Go.V
namespace Go.Proofs.YtelffdgcikceaaaGreatDoor
open Go.V
open Go.RowKit (Below)
theorem nQ:Tryz.prog.underlying 91=some (.slice 94):=Tryz.underlying91
theorem qX:(Tryz.prog.info? 94).map (·.size)=some 1:=by
 obtain⟨i,z,h1,h2,h3,h4⟩:=iH.info
 rw[h1];simp[h3]
theorem zero94:fJ Tryz.prog 94 (.pointer none):=by unfold fJ;kernel_rfl
def vals(b:Nat→Nat)(l:List Nat):List Value:=l.map (fQ b)
theorem dO(b:Nat→Nat)(l:List Nat):(vals b l).length=l.length:=by simp[vals]
theorem vP(b:Nat→Nat)(l:List Nat):(ptrs b l).flatten=vals b l:=by
 unfold ptrs vals
 induction l with
 | nil=>rfl
 | cons x r ih=>simp[ih]
theorem uX(b:Nat→Nat)(l:List Nat):∀u∈vals b l,u.oneCell'=true:=fun u hu=>by
 obtain⟨i,_,rfl⟩:=List.mem_map.1 hu
 rfl
structure Buf(w:World)(B:Nat)(v:Value)(b:Nat→Nat)(l:List Nat)(g cap:Nat)(cur:List Value):Prop where
 v_eq:v=.slice (some ⟨g,0,none⟩) l.length cap
 blk:bQ w g cur 94
 ge:B≤g
 len:cur.length=cap
 le:l.length≤cap
 max:cap≤maxLen
 head:cur.take l.length=vals b l
theorem Buf.vec{w:World}{B:Nat}{v:Value}{b:Nat→Nat}{l:List Nat}{g cap:Nat}{cur:List Value}(h:Buf w B v b l g cap cur):Vec w B 94 1 v (ptrs b l):=by
 refine⟨⟨by rw[vP,dO,aW,Nat.mul_one],.inr ⟨g,cap,cur.toArray,?_,h.ge,h.blk,?_,h.max,?_,?_⟩⟩,fun x hx=>(lZ b l x hx).1⟩
 ·rw[aW];exact h.v_eq
 ·rw[aW];exact h.le
 ·simp[h.len]
 ·rw[vP,aW,Nat.mul_one];exact h.head
theorem Buf.of{w:World}{B:Nat}{v:Value}{b:Nat→Nat}{l:List Nat}(h:Vec w B 94 1 v (ptrs b l)):(v=.slice none 0 0∧l=[])∨∃g cap cur,Buf w B v b l g cap cur:=by
 obtain⟨h1,h2⟩:=h.own
 rw[aW]at h2
 rcases h2 with ⟨h2,h3⟩|⟨g,cap,cur,hv,hg,hh,hle,hmx,hsz,htk⟩
 ·exact .inl ⟨h2,List.eq_nil_of_length_eq_zero h3⟩
 ·refine .inr ⟨g,cap,cur.toList,hv,?_,hg,by simpa using hsz,hle,hmx,?_⟩
  ·unfold bQ;simpa using hh
  ·rw[Nat.mul_one,vP]at htk
   exact htk
theorem Buf.upd{w w':World}{B:Nat}{v:Value}{b:Nat→Nat}{l l':List Nat}{g cap n:Nat}{cur cur':List Value}(h:Buf w B v b l g cap cur)(hU:mK w g cur' 94 w')(hl:cur'.length=cap)(hn:l'.length=n)(hle:n≤cap)(hd:cur'.take n=vals b l') :
  Buf w' B (.slice (some ⟨g,0,none⟩) n cap) b l' g cap cur':=by
 subst hn
 exact⟨rfl,hU.blk,h.ge,hl,hle,h.max,hd⟩
theorem run_eqGuard_ptr(gx gy:Operand)(x y:Option Addr)(w:World):(eqGuard .eql 94 gx gy (.pointer x) (.pointer y)).run Tryz.prog w=.ok () w:=by
 unfold eqGuard
 rfl
theorem run_eql94{w:World}{b:Nat→Nat}{i j:Nat}{ci cj:List Value}(hi:bQ w (b i) ci 145)(hj:bQ w (b j) cj 145)(gx gy:Operand) :
  (do eqGuard .eql 94 gx gy (fQ b i) (fQ b j);binOp .eql 94 (fQ b i) (fQ b j):Sem Value).run Tryz.prog w=.ok (.bool (decide (b i=b j))) w:=by
 obtain⟨inf,h1,h2,h3,h4⟩:=nW (t:=145) (z:=.agg #[.int .u8 0,.string ⟨#[]⟩,.string ⟨#[]⟩,.int .i64 0,.pointer none,.slice none 0 0,.slice none 0 0]) (m:=7) (b:=104) (by kernel_rfl)
 have hu:Tryz.prog.underlying 94=some (.pointer 145):=by kernel_rfl
 simp only[Sem.run_bind,fQ,run_eqGuard_ptr,Result.andThen_ok]
 by_cases e:b i=b j
 ·rw[e,run_eql_ptr_same w ⟨b j,0,none⟩ hu h1]
  simp
 ·rw[run_eql_ptr_other (a:=⟨b i,0,none⟩) (b:=⟨b j,0,none⟩) (ca:=ci.toArray) (cb:=cj.toArray) (ta:=145) (tb:=145) w hu h1 (by rw[h3];decide) (fun h=>e (congrArg Addr.block h)) hi hj]
  simp[e]
theorem jU{cur vs:List Value}{off:Nat}(h:off+vs.length≤cur.length):(splice cur off vs).length=cur.length:=by
 simp[splice];omega
theorem spl_take{cur vs:List Value}{off n:Nat}(h:off+vs.length≤cur.length)(hn:n=off+vs.length):(splice cur off vs).take n=cur.take off++vs:=by
 have:(cur.take off++vs).length=n:=by simp;omega
 unfold splice
 rw[←this,List.take_left]
theorem spl_lo{cur vs:List Value}{off n:Nat}(hn:n≤off)(h:off≤cur.length):(splice cur off vs).take n=cur.take n:=by
 unfold splice
 rw[List.append_assoc,List.take_append_of_le_length (by simp;omega),List.take_take]
 congr 1
 omega
theorem spl_hi{cur vs:List Value}{off n:Nat}(hn:off+vs.length≤n)(h:off≤cur.length):(splice cur off vs).drop n=cur.drop n:=by
 unfold splice
 have:(cur.take off++vs).length=off+vs.length:=by simp;omega
 rw[List.drop_append,this,List.drop_eq_nil_of_le (by omega),List.drop_drop,List.nil_append]
 congr 1
 omega
theorem spl_ab{cur A C:List Value}{off m tot:Nat}(hm:m=off+A.length)(ht:tot=m+C.length)(h:tot≤cur.length):(splice (splice cur off A) m C).take tot=cur.take off++A++C:=by
 have hl:=jU (cur:=cur) (vs:=A) (off:=off) (by omega)
 rw[spl_take (by omega) ht,spl_take (by omega) hm]
theorem spl_ba{cur A C:List Value}{off m tot:Nat}(hm:m=off+A.length)(ht:tot=m+C.length)(h:tot≤cur.length):(splice (splice cur m C) off A).take tot=cur.take off++A++C:=by
 have hl:=jU (cur:=cur) (vs:=C) (off:=m) (by omega)
 have h1:(splice (splice cur m C) off A).take tot=(splice (splice cur m C) off A).take m++((splice (splice cur m C) off A).drop m).take (tot-m):=by
  rw[←List.take_append_drop m ((splice (splice cur m C) off A).take tot),List.take_take,List.drop_take]
  congr 2
  omega
 rw[h1,spl_take (by omega) hm,spl_lo (by omega) (by omega),spl_hi (by omega) (by omega)]
 congr 1
 have:splice cur m C=cur.take m++(C++cur.drop (m+C.length)):=by simp[splice]
 have hlm:(cur.take m).length=m:=by simp;omega
 rw[this]
 rw[show(cur.take m++(C++cur.drop (m+C.length))).drop m=C++cur.drop (m+C.length)by
  conv=>lhs;rw[←hlm]
  simp[List.drop_left,hlm]]
 rw[List.take_append_of_le_length (by omega),List.take_of_length_le (by omega)]
theorem lD(b:Nat→Nat)(l m:List Nat):vals b (l++m)=vals b l++vals b m:=by simp[vals]
theorem vals_take(b:Nat→Nat)(l:List Nat)(i:Nat):(vals b l).take i=vals b (l.take i):=by simp[vals]
theorem vals_drop(b:Nat→Nat)(l:List Nat)(i:Nat):(vals b l).drop i=vals b (l.drop i):=by simp[vals]
def posOf(x:Nat)(l:List Nat):Option Nat:=l.findIdx? (fun y=>decide (y=x))
theorem Index_con(v:Value)(l:List Nat)(x:Nat)(w:World)(B:Nat)(own:Nat→Nat)(fo:Fo)(S:List PN)(hf:iY w B own fo S)(hv:eO w v 1 (ptrs fo.b l))(hl:∀i∈l,i<S.length)(hx:x<S.length)(hlen:l.length≤1000000000000) :
  bV Tryz.prog 163 #[v,fQ fo.b x] w (fun v' w'=>w'=w∧v'=.int .i64 (match posOf x l with|some k=>(k:Int)|none=>-1)):=by
 have hml:maxLen=9223372036854775807:=rfl
 obtain⟨o,c,rfl,c1,c2,c3⟩:=hv.ex
 rw[aW]at c1 hv ⊢
 refine enter aB Tryz.func163 (aV rfl) rfl rfl rfl ?_
 refine aH.mk (X:=Nat) (fun k=>[(0,.slice o l.length c),(1,fQ fo.b x),(7,.int .i64 l.length),(8,.int .i64 k)])
  (fun k w'=>w'=w∧k≤l.length∧∀j (h:j<l.length),j<k→l[j]≠x) (fun k=>l.length-k) 0 ⟨rfl,Nat.zero_le _,fun j h hj=>absurd hj (by omega)⟩ ⟨rfl,rfl,rfl,rfl,trivial⟩ ?_
 rintro k w1 ⟨hw,hk,ha⟩
 subst hw
 refine Cond.dec (fun g1=>?_) (fun g1=>?_)
 ·have hkl:k<l.length:=by omega
  obtain⟨a,ha',hc⟩:=hv.el _ _ _ rfl k [fQ fo.b l[k]] (by simp[ptrs,hkl])
  refine Idx.mk a ha' (by omega) (by omega) ?_
  refine Load.here (hc.one (k:=0) rfl) ?_
  have hlk:=hl _ (List.getElem_mem hkl)
  refine sG.here (run_eql94 (hf.nb x _ (List.getElem?_eq_getElem hx)).blk (hf.nb l[k] _ (List.getElem?_eq_getElem hlk)).blk _ _) ?_
  refine Cond.dec (fun g2=>?_) (fun g2=>?_)
  ·have hxe:x=l[k]:=hf.inj hx hlk g2
   refine And.intro rfl ?_
   have:posOf x l=some k:=List.findIdx?_eq_some_iff_getElem.2 ⟨hkl,by simp[hxe],fun j hj=>by simpa using ha j (by omega) hj⟩
   rw[this]
   rfl
  ·refine Ar.aM (k+1) (by omega) (by omega) ?_
   refine⟨k+1,⟨rfl,by omega,fun j h hj e=>?_⟩,by omega,rfl,rfl,rfl,rfl,trivial⟩
   by_cases ej:j=k
   ·subst ej
    exact g2 (by rw[e])
   ·exact ha j h (by omega) e
 ·refine And.intro rfl ?_
  have hkl:k=l.length:=by omega
  subst hkl
  have:posOf x l=none:=List.findIdx?_eq_none_iff.2 fun y hy=>by
   obtain⟨j,hj,rfl⟩:=List.mem_iff_getElem.1 hy
   simpa using ha j hj hj
  rw[this]
  rfl
structure Cut(w w':World)(B:Nat)(v v':Value)(b:Nat→Nat)(l':List Nat):Prop where
 vec:Vec w' B 94 1 v' (ptrs b l')
 fresh:∀g,v'.ownBlock=some g→v.ownBlock=some g∨w.heap.size≤g
 ch:Ch (fun k=>v.ownBlock=some k) w w'
theorem pX{w:World}{B:Nat}{v:Value}{b:Nat→Nat}{l:List Nat}(h:Vec w B 94 1 v (ptrs b l)):SrcV w v l.length (vals b l):=by
 have:=SrcV.of_sl h.sl (lZ b l)
 rwa [aW,vP]at this
theorem uL{w:World}{vs:Value}{b:Nat→Nat}{m:List Nat}{gs cs:Nat}{cur':List Value}{Bs:Nat}(h:Buf w Bs vs b m gs cs cur'){g lo n cap:Nat}{cur:List Value}(hb:bQ w g cur 94)(hc:cur.length=cap)(h0:0<cap)(hne:gs≠g) :
  (callFunc 191 #[vs,subs g lo n cap]).run Tryz.prog w=.ok (.value (.bool false)) w∧(0<m.length→(callFunc 191 #[subs g lo n cap,vs]).run Tryz.prog w=.ok (.value (.bool false)) w):=by
 have hsz:∀w,(Go.sizeOf 94).run Tryz.prog w=.ok 1 w:=fun w=>by
  obtain⟨i,z,h1,h2,h3,h4⟩:=iH.info
  simp[sizeOf,typeInfo,h1,h3]
 have hsA:w.shape? gs=some (94,cur'.length):=by
  have:=h.blk
  unfold bQ at this
  simp[World.shape?, this]
 have hsB:w.shape? g=some (94,cur.length):=by
  have:=hb
  unfold bQ at this
  simp[World.shape?, this]
 refine⟨?_,fun hm=>?_⟩
 ·rw[run_callFunc_extern Tryz.func191 (by kernel_rfl) (by kernel_rfl) (by kernel_rfl) (e:=Extern.SlicesOverlaps.overlaps #[91,91] #[4]) (by kernel_rfl),h.v_eq]
  unfold subs
  rw[Lib.run_overlaps_apart w 91 4 94 nQ 1 hsz ⟨gs,0,none⟩ ⟨g,_,none⟩ m.length cs _ _ hne 94 94 cur'.length cur.length hsA hsB (by omega) (h.blk.frozen 0) (h.blk.frozen _)]
  rfl
 ·rw[run_callFunc_extern Tryz.func191 (by kernel_rfl) (by kernel_rfl) (by kernel_rfl) (e:=Extern.SlicesOverlaps.overlaps #[91,91] #[4]) (by kernel_rfl),h.v_eq]
  unfold subs
  have:=h.le
  have:=h.len
  rw[Lib.run_overlaps_apart w 91 4 94 nQ 1 hsz ⟨g,_,none⟩ ⟨gs,0,none⟩ _ _ m.length cs (Ne.symm hne) 94 94 cur.length cur'.length hsB hsA (by omega) (hb.frozen _) (hb.frozen _)]
  rfl
theorem head_take{b:Nat→Nat}{l:List Nat}{cur:List Value}(h:cur.take l.length=vals b l){i:Nat}(hi:i≤l.length):cur.take i=vals b (l.take i):=by
 rw[←vals_take,←h,List.take_take]
 congr 1
 omega
theorem head_drop{b:Nat→Nat}{l:List Nat}{cur:List Value}(h:cur.take l.length=vals b l)(i:Nat):(cur.drop i).take (l.length-i)=vals b (l.drop i):=by
 rw[←vals_drop,←h,List.drop_take]
set_option maxHeartbeats 1600000 in
theorem Insert_con(v vs:Value)(l m:List Nat)(i:Nat)(w:World)(B Bs:Nat)(b:Nat→Nat)(hv:Vec w B 94 1 v (ptrs b l))(hs:Vec w Bs 94 1 vs (ptrs b m))(hne:∀g,v.ownBlock=some g→vs.ownBlock≠some g)
  (hi:i≤l.length) (hlen:l.length+m.length≤1000000000000) (hB:B≤w.heap.size) :
  bV Tryz.prog 190 #[v,.int .i64 i,vs] w (fun v' w'=>Cut w w' B v v' b (l.take i++m++l.drop i)):=by
 have hml:maxLen=9223372036854775807:=rfl
 have hsrc:=pX hs
 obtain⟨o,c,hve,c1,c2,c3,-,-⟩:=hv.shape
 obtain⟨os,cs,hse,s1,s2,s3,-,-⟩:=hs.shape
 rw[aW]at hve c1 hse s1
 rw[hve,hse]
 rw[hve]at hv hne
 rw[hse]at hs hne hsrc
 refine enter aB Tryz.func190 (aV rfl) rfl rfl rfl ?_
 refine Need.mk ⟨by omega,by omega,by omega,by omega,by simp⟩ ?_
 refine Cond.dec (fun g1=>?_) (fun g1=>?_)
 ·have hm:m=[]:=List.eq_nil_of_length_eq_zero (by omega)
  subst hm
  have:l.take i++[]++l.drop i=l:=by simp
  rw[this]
  exact⟨hv,fun g hg=>.inl hg,Ch.refl _ _⟩
 refine Cond.dec (fun g2=>?_) (fun g2=>?_)
 ·have:l.take i++m++l.drop i=l++m:=by rw[List.take_of_length_le (by omega),List.drop_of_length_le (by omega),List.append_nil]
  rw[this]
  refine bD.append iH B _ (ptrs b m) hv hs.sl (lZ b m) (by rw[aW,aW];omega) (by rw[aW,aW];omega) hB fun v' w' hv' har=>?_
  rw[←jJ]at hv'
  exact⟨hv',har.fresh,Ch.cO har fun g hg=>hg⟩
 rcases Buf.of hv with ⟨_,h0⟩|⟨g,cap,cur,hb⟩
 ·subst h0
  simp at hi g2
  omega
 have hbe:=hb.v_eq
 simp only[Value.slice.injEq,true_and]at hbe
 obtain⟨rfl,rfl⟩:=hbe
 have hcl:=hb.len
 rcases Buf.of hs with ⟨_,h0⟩|⟨gs,cps,curs,hbs⟩
 ·subst h0
  simp at g1
 have hbse:=hbs.v_eq
 simp only[Value.slice.injEq,true_and]at hbse
 obtain⟨rfl,rfl⟩:=hbse
 have hgg:gs≠g:=fun e=>hne g rfl (by rw[e];rfl)
 refine Ar.aM (l.length+m.length) (by omega) (by omega) ?_
 refine bD.cap nQ ?_
 refine Cond.dec (fun g3=>?_) (fun g3=>?_)
 ·refine Need.mk ⟨by omega,by omega,by omega,by omega,by simp⟩ ?_
  refine Ar.aM (l.length+m.length) (by omega) (by omega) ?_
  refine Ar.aM (l.length+m.length-i) (by omega) (by omega) ?_
  refine bD.appendZ iH (q:=.i64) (by kernel_rfl) zero94 rfl g i c (l.length+m.length-i) cur (l.length+m.length) (by omega) (jG _ _ _) hb.blk (by omega) hcl (by omega) (by omega) (by omega) (by omega) fun G w1 hG1 hG2 n1=>?_
  refine Need.mk ⟨by omega,by omega,by omega,by omega,by simp⟩ ?_
  have hE1:Ext w w1:=(Ext.drew w).trans n1.ext
  have hlen1:(cur.take i++List.replicate (G-i) (Value.pointer none)).length=G:=by simp;omega
  refine bD.copy nQ qX w.heap.size i (l.length+m.length) G m.length _ (vals b m) (gT _ _ _ _) n1.blk (by omega) hG1 hlen1 (pX (hs.ext hE1)) (by rw[dO];omega) fun w2 hU2=>?_
  have hbl1:=hb.blk.ext hE1
  have hgw:=hb.blk.lt
  have hb2:=hU2.aF hbl1 (by omega)
  have hEd:=Ext.drew w2
  have hlen2:=jU (cur:=cur.take i++List.replicate (G-i) (Value.pointer none)) (vs:=vals b m) (off:=i) (by rw[hlen1,dO];omega)
  refine aQ.mk aB mixed (allT 0 8++[(8,false)]) [8] (by kernel_rfl) (fun w'=>w'=w2.drew) rfl ?_
  refine Ar.aM (i+m.length) (by omega) (by omega) ?_
  refine Need.mk ⟨by omega,by omega,by omega,by omega,by simp⟩ ?_
  refine Need.mk ⟨by omega,by omega,by omega,by omega,by simp⟩ ?_
  refine bD.copy nQ qX w.heap.size (i+m.length) (l.length+m.length) G (l.length-i) _ (vals b (l.drop i)) (gT _ _ _ _) (hU2.blk.ext hEd) (by omega) hG1 (by rw[hlen2,hlen1]) (SrcV.sub (hb2.ext hEd) hi c1 hcl (gT _ _ _ _) (l.length-i) (Nat.le_refl _) (head_drop hb.head i).symm (uX _ _)) (by rw[dO,List.length_drop];omega) fun w3 hU3=>?_
  have hhead:(splice (splice (cur.take i++List.replicate (G-i) (Value.pointer none)) i (vals b m)) (i+m.length) (vals b (l.drop i))).take (l.length+m.length)=vals b (l.take i++m++l.drop i):=by
   rw[spl_ab (by rw[dO]) (by rw[dO,List.length_drop];omega) (by rw[hlen1];exact hG1),lD,lD,←head_take hb.head hi]
   congr 2
   rw[List.take_append_of_le_length (by simp;omega),List.take_take,Nat.min_self]
  have hll:(l.take i++m++l.drop i).length=l.length+m.length:=by simp;omega
  have hE2:Ext w w2:=hE1.upd hU2 (Nat.le_refl _)
  exact⟨Buf.vec (g:=w.heap.size) (cap:=G) ⟨by rw[hll];rfl,hU3.blk,hB,by rw[jU (by rw[hlen2,hlen1,dO,List.length_drop];omega),hlen2,hlen1],by rw[hll];exact hG1,hG2,by rw[hll];exact hhead⟩,
   fun g' hg'=>by cases hg';exact .inr (Nat.le_refl _),Ch.aL ((hE2.trans hEd).upd hU3 (Nat.le_refl _))⟩
 refine Ar.aM (l.length+m.length) (by omega) (by omega) ?_
 refine Need.mk ⟨by omega,by omega,by omega,by omega,by simp⟩ ?_
 rw[jG]
 have hgw:=hb.blk.lt
 have hbL:=hb.len
 refine Ar.aM (i+m.length) (by omega) (by omega) ?_
 refine Need.mk ⟨by omega,by omega,by omega,by omega,by simp⟩ ?_
 refine aA.ext (.bool false) w (by
  rw[gT]
  exact(uL hbs hb.blk hcl (by omega) hgg).1) ?_
 refine Cond.yes ?_
 have hEd:=Ext.drew w
 refine aQ.mk aB mixed (allT 0 8++[(8,false)]) [8] (by kernel_rfl) (fun w'=>w'=w.drew) rfl ?_
 refine Ar.aM (i+m.length) (by omega) (by omega) ?_
 refine Need.mk ⟨by omega,by omega,by omega,by omega,by simp⟩ ?_
 refine Need.mk ⟨by omega,by omega,by omega,by omega,by simp⟩ ?_
 refine bD.copy nQ qX g (i+m.length) (l.length+m.length) c (l.length+m.length-i) cur (vals b (l.drop i)) (gT _ _ _ _) (hb.blk.ext hEd) (by omega) (by omega) hcl (SrcV.sub (hb.blk.ext hEd) (by omega) (by omega) hcl (gT _ _ _ _) (l.length-i) (by omega) (head_drop hb.head i).symm (uX _ _)) (by rw[dO,List.length_drop];omega) fun w3 hU3=>?_
 refine Need.mk ⟨by omega,by omega,by omega,by omega,by simp⟩ ?_
 have hlen3:=jU (cur:=cur) (vs:=vals b (l.drop i)) (off:=i+m.length) (by rw[dO,List.length_drop];omega)
 refine bD.copy nQ qX g i (l.length+m.length) c m.length _ (vals b m) (gT _ _ _ _) hU3.blk (by omega) (by omega) (by rw[hlen3,hcl]) (pX ((hs.ext hEd).upd hU3 (fun e=>hne g rfl e))) (by rw[dO];omega) fun w4 hU4=>?_
 have hhead:(splice (splice cur (i+m.length) (vals b (l.drop i))) i (vals b m)).take (l.length+m.length)=vals b (l.take i++m++l.drop i):=by
  rw[spl_ba (by rw[dO]) (by rw[dO,List.length_drop];omega) (by omega),lD,lD,←head_take hb.head hi]
 have hll:(l.take i++m++l.drop i).length=l.length+m.length:=by simp;omega
 exact⟨Buf.vec (g:=g) (cap:=c) ⟨by rw[hll];rfl,hU4.blk,hb.ge,by rw[jU (by rw[hlen3,dO];omega),hlen3,hcl],by rw[hll];omega,c2,by rw[hll];exact hhead⟩,
  fun g' hg'=>.inl hg',((Ch.aL (M:=fun k=>(Value.slice (some { block:=g,off:=0 }) l.length c).ownBlock=some k) hEd).trans (Ch.bG hU3 rfl)).trans (Ch.bG hU4 rfl)⟩
theorem _root_.Go.V.bD.appendRoom{P:Program}{t e bytes:Nat}(hE:lG P t e 1 bytes){w:World}{ty:Nat}{consts:Array Bool}{k:Value→World→Prop}{v src:Value}(g i cap m:Nat)(cur cs:List Value)
  (hd:v=.slice (some ⟨g,0,none⟩) i cap) (hb:bQ w g cur e) (hi:i+m≤cap) (hc:cur.length=cap) (hs:SrcV w src m cs) (hcs:cs.length=m) (hs0:∀c,src=.slice none 0 c→c=0)
  (hk:∀w',mK w g (splice cur i cs) e w'→k (.slice (some ⟨g,0,none⟩) (i+m) cap) w'):bD P (builtin .append #[t,t] ty consts #[v,src]) w k:=by
 subst hd
 obtain⟨inf,z,hinf,-,hsz,-,-⟩:=hE.info
 obtain⟨o,c,rfl,hnil,hcell,h1⟩:=hs
 cases o with
 | none=>
   have hm:=hnil rfl
   subst hm
   have hc0:=hs0 c rfl
   subst hc0
   have hcs0:cs=[]:=List.eq_nil_of_length_eq_zero hcs
   subst hcs0
   have hn:¬(cap<i):=by omega
   have hrun:(Builtin.append_ #[t,t] ty #[.slice (some ⟨g,0,none⟩) i cap,.slice none 0 0]).run P w=.ok (.slice (some ⟨g,0,none⟩) i cap) w:=by
    have hic:i≤cap:=by omega
    simp[Builtin.append_,run_underlying hE.sl,sizeOf,typeInfo,hinf,Builtin.lenOf,Builtin.firstCells,hic,storeCells]
   refine .mk _ w ?_ (hk w (mK.same hb i))
   simp only[builtin,Sem.run_bind,hrun,Result.andThen_ok,Sem.run_pure,Nat.add_zero]
 | some a=>
   have hrun:=run_append_room (P:=P) w t ty e inf hE.sl hinf g i cap cur.toArray hb a m c cs (by rw[hsz,hcs,Nat.mul_one]) (hcell a rfl) h1 hi (by rw[hsz];simp;omega)
   refine .mk _ _ ?_ (hk _ ⟨⟨_,hb⟩,rfl⟩)
   simp only[builtin,Sem.run_bind,hrun,Result.andThen_ok,Sem.run_pure,splice,List.toList_toArray,hsz,Nat.mul_one]
theorem Replace0_con(v vs:Value)(l m:List Nat)(i:Nat)(w:World)(B Bs:Nat)(b:Nat→Nat)(hv:Vec w B 94 1 v (ptrs b l))(hs:Vec w Bs 94 1 vs (ptrs b m))(hne:∀g,v.ownBlock=some g→vs.ownBlock≠some g)
  (hi:i≤l.length) (hlen:l.length+m.length≤1000000000000) (hB:B≤w.heap.size) :
  bV Tryz.prog 164 #[v,.int .i64 i,.int .i64 i,vs] w (fun v' w'=>Cut w w' B v v' b (l.take i++m++l.drop i)):=by
 have hml:maxLen=9223372036854775807:=rfl
 obtain⟨o,c,hve,c1,c2,c3,-,-⟩:=hv.shape
 rw[aW]at hve c1
 rw[hve]at hv hne ⊢
 refine enter aB Tryz.func164 (aV rfl) rfl rfl rfl ?_
 refine Need.mk ⟨by omega,by omega,by omega,by omega,by simp⟩ ?_
 refine Cond.dec (fun g1=>?_) (fun g1=>absurd rfl g1)
 refine aA.mk _ (Insert_con _ vs l m i w B Bs b hv hs hne hi hlen hB) ?_
 rintro v' w' h
 exact h
set_option maxHeartbeats 3200000 in
theorem Replace1_con(v vs:Value)(l m:List Nat)(i:Nat)(w:World)(B Bs:Nat)(b:Nat→Nat)(hv:Vec w B 94 1 v (ptrs b l))(hs:Vec w Bs 94 1 vs (ptrs b m))(hne:∀g,v.ownBlock=some g→vs.ownBlock≠some g)
  (hi:i<l.length) (hlen:l.length+m.length≤1000000000000) (hB:B≤w.heap.size) :
  bV Tryz.prog 164 #[v,.int .i64 i,.int .i64 (i+1:Nat),vs] w (fun v' w'=>Cut w w' B v v' b (l.take i++m++l.drop (i+1))):=by
 have hml:maxLen=9223372036854775807:=rfl
 have hsrc:=pX hs
 obtain⟨o,c,hve,c1,c2,c3,-,-⟩:=hv.shape
 obtain⟨os,cs,hse,s1,s2,s3,-,-⟩:=hs.shape
 rw[aW]at hve c1 hse s1
 rw[hve,hse]
 rw[hve]at hv hne
 rw[hse]at hs hne hsrc
 rcases Buf.of hv with ⟨_,h0⟩|⟨g,cap,cur,hb⟩
 ·subst h0
  simp at hi
 have hbe:=hb.v_eq
 simp only[Value.slice.injEq,true_and]at hbe
 obtain⟨rfl,rfl⟩:=hbe
 have hcl:=hb.len
 have hgw:=hb.blk.lt
 have hnil:∀c',Value.slice os m.length cs=.slice none 0 c'→c'=0:=fun c' e=>by
  simp only[Value.slice.injEq]at e
  obtain⟨e1,e2,e3⟩:=e
  have:=s3 e1
  omega
 refine enter aB Tryz.func164 (aV rfl) rfl rfl rfl ?_
 refine Need.mk ⟨by omega,by omega,by omega,by omega,by simp⟩ ?_
 refine Cond.dec (fun g1=>absurd g1 (by omega)) (fun g1=>?_)
 refine Cond.dec (fun g2=>?_) (fun g2=>?_)
 ·
  have hdr:l.drop (i+1)=[]:=List.drop_of_length_le (by omega)
  rw[hdr,List.append_nil]
  refine Need.mk ⟨by omega,by omega,by omega,by omega,by simp⟩ ?_
  by_cases hm:m.length=0
  ·have hm0:m=[]:=List.eq_nil_of_length_eq_zero hm
   subst hm0
   refine bD.appendRoom iH g i c 0 cur [] (jG _ _ _) hb.blk (by omega) hcl hsrc rfl hnil fun w1 hU1=>?_
   have hcur1:splice cur i []=cur:=by simp[splice]
   rw[hcur1]at hU1
   refine Cond.dec (fun g3=>?_) (fun g3=>absurd (show((i+0:Nat):Int)<(l.length:Int)by omega) g3)
   refine Need.mk ⟨by omega,by omega,by omega,by omega,by simp⟩ ?_
   refine bD.clear nQ zero94 rfl rfl g (i+0) l.length c cur (gT _ _ _ _) hU1.blk (by omega) c1 hcl fun w2 x hU2=>?_
   have hll:(l.take i).length=i:=by simp;omega
   rw[List.append_nil]
   exact⟨Buf.vec (g:=g) (cap:=c) ⟨by rw[hll];rfl,hU2.blk,hb.ge,by rw[jU (by simp;omega),hcl],by rw[hll];omega,c2,by
     rw[hll,spl_lo (by omega) (by omega)]
     exact head_take hb.head (by omega)⟩,
    fun g' hg'=>.inl hg',(Ch.bG (M:=fun k=>(Value.slice (some { block:=g,off:=0 }) l.length c).ownBlock=some k) hU1 rfl).trans (Ch.bG hU2 rfl)⟩
  ·have hbi:Buf w B (.slice (some ⟨g,0,none⟩) i c) b (l.take i) g c cur:=⟨by simp;omega,hb.blk,hb.ge,hcl,by simp;omega,c2,by
    rw[show(l.take i).length=i by simp;omega]
    exact head_take hb.head (by omega)⟩
   refine bD.append iH B _ (ptrs b m) (v:=_) (by rw[jG];exact hbi.vec) hs.sl (lZ b m) (by rw[aW,aW,List.length_take];omega) (by rw[aW,aW,List.length_take];omega) hB fun v' w1 hv' har=>?_
   rw[jG]at har
   rw[←jJ]at hv'
   obtain⟨o',c',hve',-,-,-,-,-⟩:=hv'.shape
   rw[aW]at hve'
   have hll:(l.take i++m).length=i+m.length:=by simp;omega
   rw[hll]at hve'
   rw[hve']
   refine Cond.dec (fun g3=>absurd g3 (by omega)) (fun g3=>?_)
   rw[hve']at hv' har
   exact⟨hv',har.fresh,Ch.cO har fun g' hg'=>hg'⟩
 refine aQ.mk aB mixed (allT 0 13) [] (by kernel_rfl) (fun w'=>w'=w.drew) rfl ?_
 refine Need.mk ⟨by omega,by omega,by omega,by omega,by simp⟩ ?_
 refine Ar.aM (i+m.length) (by omega) (by omega) ?_
 refine Need.mk ⟨by omega,by omega,by omega,by omega,by simp⟩ ?_
 refine Ar.aM (l.length-1+m.length) (by omega) (by omega) ?_
 refine bD.cap nQ ?_
 obtain⟨tot,htot⟩:∃tot,tot=l.length-1+m.length:=⟨_,rfl⟩
 rw[←htot]
 have hbd:=hb.blk.ext (Ext.drew w)
 have hsd:=hs.ext (Ext.drew w)
 have hll:(l.take i++m++l.drop (i+1)).length=tot:=by simp;omega
 have htl:(vals b (l.drop (i+1))).length=l.length-(i+1):=by rw[dO,List.length_drop]
 refine Cond.dec (fun g3=>?_) (fun g3=>?_)
 ·refine Need.mk ⟨by omega,by omega,by omega,by omega,by simp⟩ ?_
  refine Ar.aM (tot-i) (by omega) (by omega) ?_
  refine bD.appendZ iH (q:=.i64) (by kernel_rfl) zero94 rfl g i c (tot-i) cur tot (by omega) (jG _ _ _) hbd (by omega) hcl (by omega) (by omega) (by omega) (by omega) fun G w1 hG1 hG2 n1=>?_
  refine Need.mk ⟨by omega,by omega,by omega,by omega,by simp⟩ ?_
  have hE1:Ext w w1:=((Ext.drew w).trans (Ext.drew _)).trans n1.ext
  have hlen1:(cur.take i++List.replicate (G-i) (Value.pointer none)).length=G:=by simp;omega
  refine bD.copy nQ qX w.heap.size i tot G m.length _ (vals b m) (gT _ _ _ _) n1.blk (by omega) hG1 hlen1 (pX (hs.ext hE1)) (by rw[dO];omega) fun w2 hU2=>?_
  have hb2:=hU2.aF (hb.blk.ext hE1) (by omega)
  have hEd:=Ext.drew w2
  have hlen2:=jU (cur:=cur.take i++List.replicate (G-i) (Value.pointer none)) (vs:=vals b m) (off:=i) (by rw[hlen1,dO];omega)
  refine aQ.mk aB mixed (allT 0 9++[(9,false)]) [9] (by kernel_rfl) (fun w'=>w'=w2.drew) rfl ?_
  refine Ar.aM (i+m.length) (by omega) (by omega) ?_
  refine Need.mk ⟨by omega,by omega,by omega,by omega,by simp⟩ ?_
  refine Need.mk ⟨by omega,by omega,by omega,by omega,by simp⟩ ?_
  refine bD.copy nQ qX w.heap.size (i+m.length) tot G (l.length-(i+1)) _ (vals b (l.drop (i+1))) (gT _ _ _ _) (hU2.blk.ext hEd) (by omega) hG1 (by rw[hlen2,hlen1]) (SrcV.sub (hb2.ext hEd) hi c1 hcl (gT _ _ _ _) (l.length-(i+1)) (Nat.le_refl _) (head_drop hb.head (i+1)).symm (uX _ _)) (by omega) fun w3 hU3=>?_
  have hhead:(splice (splice (cur.take i++List.replicate (G-i) (Value.pointer none)) i (vals b m)) (i+m.length) (vals b (l.drop (i+1)))).take tot=vals b (l.take i++m++l.drop (i+1)):=by
   rw[spl_ab (by rw[dO]) (by omega) (by rw[hlen1];exact hG1),lD,lD,←head_take hb.head (Nat.le_of_lt hi)]
   congr 2
   rw[List.take_append_of_le_length (by simp;omega),List.take_take,Nat.min_self]
  have hE2:Ext w w2:=hE1.upd hU2 (Nat.le_refl _)
  exact⟨Buf.vec (g:=w.heap.size) (cap:=G) ⟨by rw[hll];rfl,hU3.blk,hB,by rw[jU (by rw[hlen2,hlen1];omega),hlen2,hlen1],by rw[hll];exact hG1,hG2,by rw[hll];exact hhead⟩,
   fun g' hg'=>by cases hg';exact .inr (Nat.le_refl _),Ch.aL ((hE2.trans hEd).upd hU3 (Nat.le_refl _))⟩
 refine Need.mk ⟨by omega,by omega,by omega,by omega,by simp⟩ ?_
 rw[jG (some ⟨g,0,none⟩) tot c]
 refine Ar.aM (i+m.length) (by omega) (by omega) ?_
 have hM:(fun k=>(Value.slice (some { block:=g,off:=0 }) l.length c).ownBlock=some k) g:=rfl
 have hC0:Ch (fun k=>(Value.slice (some { block:=g,off:=0 }) l.length c).ownBlock=some k) w w.drew:=Ch.aL (Ext.drew w)
 refine Cond.dec (fun g4=>?_) (fun g4=>?_)
 ·
  refine Need.mk ⟨by omega,by omega,by omega,by omega,by simp⟩ ?_
  refine bD.copy nQ qX g i tot c m.length cur (vals b m) (gT _ _ _ _) hbd (by omega) (by omega) hcl (pX hsd) (by rw[dO];omega) fun w2 hU2=>?_
  have hEd:=Ext.drew w2
  have hlen2:=jU (cur:=cur) (vs:=vals b m) (off:=i) (by rw[dO];omega)
  refine aQ.mk aB mixed (allT 0 9++[(9,false)]) [9] (by kernel_rfl) (fun w'=>w'=w2.drew) rfl ?_
  refine Ar.aM (i+m.length) (by omega) (by omega) ?_
  refine Need.mk ⟨by omega,by omega,by omega,by omega,by simp⟩ ?_
  refine Need.mk ⟨by omega,by omega,by omega,by omega,by simp⟩ ?_
  have hsrc2:vals b (l.drop (i+1))=((splice cur i (vals b m)).drop (i+1)).take (l.length-(i+1)):=by
   rw[spl_hi (by rw[dO];omega) (by omega)]
   exact(head_drop hb.head (i+1)).symm
  refine bD.copy nQ qX g (i+m.length) tot c (l.length-(i+1)) _ (vals b (l.drop (i+1))) (gT _ _ _ _) (hU2.blk.ext hEd) (by omega) (by omega) (by rw[hlen2,hcl]) (SrcV.sub (hU2.blk.ext hEd) hi c1 (by rw[hlen2,hcl]) (gT _ _ _ _) (l.length-(i+1)) (Nat.le_refl _) hsrc2 (uX _ _)) (by omega) fun w3 hU3=>?_
  have hlen3:=jU (cur:=splice cur i (vals b m)) (vs:=vals b (l.drop (i+1))) (off:=i+m.length) (by rw[hlen2];omega)
  refine Need.mk ⟨by omega,by omega,by omega,by omega,by simp⟩ ?_
  refine bD.clear nQ zero94 rfl rfl g tot l.length c _ (gT _ _ _ _) hU3.blk (by omega) c1 (by rw[hlen3,hlen2,hcl]) fun w4 x hU4=>?_
  have hhead:(splice (splice (splice cur i (vals b m)) (i+m.length) (vals b (l.drop (i+1)))) tot (List.replicate (l.length-tot) (.pointer none))).take tot=vals b (l.take i++m++l.drop (i+1)):=by
   rw[spl_lo (Nat.le_refl _) (by rw[hlen3,hlen2];omega),spl_ab (by rw[dO]) (by omega) (by omega),lD,lD,←head_take hb.head (Nat.le_of_lt hi)]
  exact⟨Buf.vec (g:=g) (cap:=c) ⟨by rw[hll];rfl,hU4.blk,hb.ge,by rw[jU (by rw[hlen3,hlen2,List.length_replicate];omega),hlen3,hlen2,hcl],by rw[hll];omega,c2,by rw[hll];exact hhead⟩,
   fun g' hg'=>.inl hg',(((hC0.trans (Ch.bG hU2 rfl)).trans (Ch.aL hEd)).trans (Ch.bG hU3 rfl)).trans (Ch.bG hU4 rfl)⟩
 rcases Buf.of hsd with ⟨_,h0⟩|⟨gs,cps,curs,hbs⟩
 ·subst h0
  simp at g4
  omega
 have hbse:=hbs.v_eq
 simp only[Value.slice.injEq,true_and]at hbse
 obtain⟨rfl,rfl⟩:=hbse
 have hgg:gs≠g:=fun e=>hne g rfl (by rw[e];rfl)
 refine Ar.aM (i+m.length) (by omega) (by omega) ?_
 refine Need.mk ⟨by omega,by omega,by omega,by omega,by simp⟩ ?_
 refine aA.ext (.bool false) w.drew (by
  rw[gT]
  exact(uL hbs hbd hcl (by omega) hgg).2 (by omega)) ?_
 refine Cond.yes ?_
 have hEd:=Ext.drew w.drew
 refine aQ.mk aB mixed (allT 0 9++[(9,false)]) [9] (by kernel_rfl) (fun w'=>w'=w.drew.drew) rfl ?_
 refine Ar.aM (i+m.length) (by omega) (by omega) ?_
 refine Need.mk ⟨by omega,by omega,by omega,by omega,by simp⟩ ?_
 refine Need.mk ⟨by omega,by omega,by omega,by omega,by simp⟩ ?_
 refine bD.copy nQ qX g (i+m.length) tot c (l.length-(i+1)) cur (vals b (l.drop (i+1))) (gT _ _ _ _) (hbd.ext hEd) (by omega) (by omega) hcl (SrcV.sub (hbd.ext hEd) hi c1 hcl (gT _ _ _ _) (l.length-(i+1)) (Nat.le_refl _) (head_drop hb.head (i+1)).symm (uX _ _)) (by omega) fun w3 hU3=>?_
 refine Need.mk ⟨by omega,by omega,by omega,by omega,by simp⟩ ?_
 have hlen3:=jU (cur:=cur) (vs:=vals b (l.drop (i+1))) (off:=i+m.length) (by omega)
 refine bD.copy nQ qX g i tot c m.length _ (vals b m) (gT _ _ _ _) hU3.blk (by omega) (by omega) (by rw[hlen3,hcl]) (pX ((hsd.ext hEd).upd hU3 (fun e=>hne g rfl e))) (by rw[dO];omega) fun w4 hU4=>?_
 have hhead:(splice (splice cur (i+m.length) (vals b (l.drop (i+1)))) i (vals b m)).take tot=vals b (l.take i++m++l.drop (i+1)):=by
  rw[spl_ba (by rw[dO]) (by omega) (by omega),lD,lD,←head_take hb.head (Nat.le_of_lt hi)]
 exact⟨Buf.vec (g:=g) (cap:=c) ⟨by rw[hll];rfl,hU4.blk,hb.ge,by rw[jU (by rw[hlen3,dO];omega),hlen3,hcl],by rw[hll];omega,c2,by rw[hll];exact hhead⟩,
  fun g' hg'=>.inl hg',(((hC0.trans (Ch.aL hEd)).trans (Ch.bG hU3 rfl)).trans (Ch.bG hU4 rfl))⟩
theorem takeStep_get(u:Nat)(S:List PN)(j i:Nat):(jN u S j)[i]? = (S[i]?).map (fun s=>if i=j then qZ s u else s):=by
 unfold jN
 cases hj:S[j]? with
 | none=>
   simp only
   cases hi:S[i]? with
   | none=>rfl
   | some s=>
     have:i≠j:=fun e=>by rw[e,hj]at hi;cases hi
     simp[this]
 | some t=>
   simp only
   rw[List.getElem?_set]
   by_cases e:j=i
   ·subst e
    have:=(List.getElem?_eq_some_iff.1 hj).1
    rw[if_pos rfl,if_pos this,hj]
    simp
   ·rw[if_neg e]
    cases hi:S[i]? with
    | none=>rfl
    | some s=>simp[Ne.symm e]
theorem jP(u:Nat):∀(l:List Nat) (S:List PN) (i:Nat),(bE S u l)[i]? = (S[i]?).map (fun s=>if i∈l then qZ s u else s)
 | [],S,i=>by
   show S[i]? = _
   cases S[i]?<;>simp
 | j::r,S,i=>by
   show(bE (jN u S j) u r)[i]? = _
   rw[jP u r,takeStep_get]
   cases S[i]? with
   | none=>rfl
   | some s=>
     simp only[Option.map_some,List.mem_cons]
     by_cases e:i=j
     ·by_cases e2:i∈r
      ·simp[e,e2,qZ]
      ·simp[e,e2,qZ]
     ·simp[e]
theorem gY{S:List PN}{u i:Nat}{l:List Nat}{s:PN}(h:S[i]? = some s):∃s1,(bE S u l)[i]? = some s1∧s1.row=s.row∧s1.attrs=s.attrs∧s1.kids=s.kids∧(s1.up=s.up∨s1.up=some u):=by
 rw[jP,h]
 refine⟨_,rfl,?_⟩
 split
 ·exact⟨rfl,rfl,rfl,.inr rfl⟩
 ·exact⟨rfl,rfl,rfl,.inl rfl⟩
def rH(l:List Nat)(i out:Nat)(m:List Nat):List Nat:=l.take i++m++l.drop (i+out)
def kindOf(S:List PN)(i:Nat):Int:=match S[i]? with
 | some s=>s.row.kind
 | none=>0
def eD(S:List PN)(x u on out:Nat)(m:List Nat):List PN:=
 match (bE S u m)[u]? with
 | none=>bE S u m
 | some su=>if kindOf S x=3
   then match posOf x su.attrs with
    | none=>bE S u m
    | some k=>(bE S u m).set u { su with attrs:=rH su.attrs (k+on) out m }
   else match posOf x su.kids with
    | none=>bE S u m
    | some k=>(bE S u m).set u { su with kids:=rH su.kids (k+on) out m }
structure DoOk(N:Nat)(w w':World)(B:Nat)(own own':Nat→Nat)(fo fo':Fo)(S S':List PN):Prop where
 foat:iY w' B own' fo' S'
 ch:Ch (fun k=>own k≠0∨N≤k) w w'
 keep:∀k,k<N→own k=0→own' k=0
 same:∀i,i<S.length→fo'.b i=fo.b i
theorem DoOk.trans{N:Nat}{w w1 w2:World}{B:Nat}{own own1 own2:Nat→Nat}{fo fo1 fo2:Fo}{S S1 S2:List PN}(h:DoOk N w w1 B own own1 fo fo1 S S1)(k:DoOk N w1 w2 B own1 own2 fo1 fo2 S1 S2)(hl:S.length≤S1.length):DoOk N w w2 B own own2 fo fo2 S S2:=by
 refine⟨k.foat,⟨k.ch.os.trans h.ch.os,k.ch.tape.trans h.ch.tape,k.ch.output.trans h.ch.output,Nat.le_trans h.ch.size k.ch.size,fun i hi hM=>?_⟩,fun i hi ho=>?_,fun i hi=>?_⟩
 ·have h0:own i=0:=by
   rcases Nat.eq_zero_or_pos (own i)with e|e
   ·exact e
   ·exact absurd (Or.inl (show own i≠0 by omega)) hM
  have hiN:i<N:=by
   rcases Nat.lt_or_ge i N with e|e
   ·exact e
   ·exact absurd (Or.inr e) hM
  have h1:=h.keep i hiN h0
  exact(k.ch.block i (Nat.lt_of_lt_of_le hi h.ch.size) (fun h=>by omega)).trans (h.ch.block i hi hM)
 ·exact k.keep i hi (h.keep i hi ho)
 ·rw[k.same i (by omega),h.same i hi]
theorem Replace_con(v vs:Value)(l m:List Nat)(i out:Nat)(w:World)(B Bs:Nat)(b:Nat→Nat)(hv:Vec w B 94 1 v (ptrs b l))(hs:Vec w Bs 94 1 vs (ptrs b m))(hne:∀g,v.ownBlock=some g→vs.ownBlock≠some g)
  (ho:out≤1) (hi:i+out≤l.length) (hlen:l.length+m.length≤1000000000000) (hB:B≤w.heap.size) :
  bV Tryz.prog 164 #[v,.int .i64 i,.int .i64 (i+out:Nat),vs] w (fun v' w'=>Cut w w' B v v' b (rH l i out m)):=by
 unfold rH
 rcases Nat.lt_or_ge out 1 with h|h
 ·have:out=0:=by omega
  subst this
  exact Replace0_con v vs l m i w B Bs b hv hs hne hi hlen hB
 ·have:out=1:=by omega
  subst this
  exact Replace1_con v vs l m i w B Bs b hv hs hne hi hlen hB
structure Side(N:Nat)(w:World)(B:Nat)(own:Nat→Nat)(fo:Fo)(S:List PN)(u off:Nat)(lv:Value)(ll:List Nat)(upd:List Nat→List PN):Prop where
 at_:∀su,S[u]? = some su→(su.cells fo.b (fo.va u) (fo.vk u))[off]? = some lv
 vec:Vec w B 94 1 lv (ptrs fo.b ll)
 lt:∀i∈ll,i<S.length
 tag:∀g,lv.ownBlock=some g→own g≠0∧∃t,own g=3*u+2+t∧t<2
 fin:∀su w2 w3 v' l',S[u]? = some su→Ch (fun k=>lv.ownBlock=some k) w w2→Vec w2 B 94 1 v' (ptrs fo.b l')→(∀g,v'.ownBlock=some g→lv.ownBlock=some g∨w.heap.size≤g)→
  mK w2 (fo.b u) (splice (su.cells fo.b (fo.va u) (fo.vk u)) off [v']) 145 w3→∃own' fo',DoOk N w w3 B own own' fo fo' S (upd l')
theorem side_attrs{N:Nat}{w:World}(hNw:N≤w.heap.size){B:Nat}{own:Nat→Nat}{fo:Fo}{S:List PN}{u:Nat}{su:PN}(hf:iY w B own fo S)(hN:Named S)(hu:S[u]? = some su):Side N w B own fo S u 5 (fo.va u) su.attrs (fun l=>S.set u { su with attrs:=l }):=by
 have hv:=hf.nv u su hu
 refine⟨fun s hs=>by rw[hu]at hs;cases hs;rfl,hv.va,(hN.at_ u su hu).1,fun g hg=>⟨by rw[hv.ta g hg];omega,0,by rw[hv.ta g hg],by omega⟩,?_⟩
 intro s w2 w3 v' l' hs hC hv' hfr hU
 rw[hu]at hs
 cases hs
 have hX:FoX w2 B own fo S u:=(hf.x u).ch hC fun k _ hk=>.inr (.inl (hv.ta k hk))
 have hb:=hf.nb u su hu
 have hvk2:=hC.vec hv.vk (fun g hg e=>by have h1:=hv.tk g hg;have h2:=hv.ta g e;omega)
 have hF:=hX.setAttrs (l:=l') hu hU rfl hv' (fun g hg=>by
  rcases hfr g hg with h|h
  ·exact .inr (hv.ta g h)
  ·exact .inl (hf.fresh g h)) hvk2 hv.tk
 refine⟨_,_,hF,?_,fun k hk ho=>?_,fun i hi=>rfl⟩
 ·exact(hC.mono fun k hk=>.inl (by rw[hv.ta k hk];omega)).trans (.bG hU (.inl (by rw[hb.tag];omega)))
 ·rw[dY (fun g hg e=>by
   rcases hfr g hg with h|h
   ·have:=hv.ta g h;rw[←e]at this;omega
   ·omega)]
  exact ho
theorem side_kids{N:Nat}{w:World}(hNw:N≤w.heap.size){B:Nat}{own:Nat→Nat}{fo:Fo}{S:List PN}{u:Nat}{su:PN}(hf:iY w B own fo S)(hN:Named S)(hu:S[u]? = some su):Side N w B own fo S u 6 (fo.vk u) su.kids (fun l=>S.set u { su with kids:=l }):=by
 have hv:=hf.nv u su hu
 refine⟨fun s hs=>by rw[hu]at hs;cases hs;rfl,hv.vk,(hN.at_ u su hu).2,fun g hg=>⟨by rw[hv.tk g hg];omega,1,by rw[hv.tk g hg],by omega⟩,?_⟩
 intro s w2 w3 v' l' hs hC hv' hfr hU
 rw[hu]at hs
 cases hs
 have hX:FoX w2 B own fo S u:=(hf.x u).ch hC fun k _ hk=>.inr (.inr (hv.tk k hk))
 have hb:=hf.nb u su hu
 have hva2:=hC.vec hv.va (fun g hg e=>by have h1:=hv.ta g hg;have h2:=hv.tk g e;omega)
 have hF:=hX.setKids (l:=l') hu hU rfl hv' (fun g hg=>by
  rcases hfr g hg with h|h
  ·exact .inr (hv.tk g h)
  ·exact .inl (hf.fresh g h)) hva2 hv.ta
 refine⟨_,_,hF,?_,fun k hk ho=>?_,fun i hi=>rfl⟩
 ·exact(hC.mono fun k hk=>.inl (by rw[hv.tk k hk];omega)).trans (.bG hU (.inl (by rw[hb.tag];omega)))
 ·rw[dY (fun g hg e=>by
   rcases hfr g hg with h|h
   ·have:=hv.tk g h;rw[←e]at this;omega
   ·omega)]
  exact ho
theorem named_take{S:List PN}(h:Named S){u:Nat}(hu:u<S.length)(l:List Nat):Named (bE S u l):=by
 refine⟨fun i t hi v hv=>?_,fun i t hi=>?_⟩
 ·rw[aZ]
  rw[jP]at hi
  cases hs:S[i]? with
  | none=>rw[hs]at hi;cases hi
  | some s=>
    rw[hs]at hi
    simp only[Option.map_some,Option.some.injEq]at hi
    subst hi
    split at hv
    ·cases hv;exact hu
    ·exact h.up i s hs v hv
 ·rw[aZ]
  rw[jP]at hi
  cases hs:S[i]? with
  | none=>rw[hs]at hi;cases hi
  | some s=>
    rw[hs]at hi
    simp only[Option.map_some,Option.some.injEq]at hi
    subst hi
    have:=h.at_ i s hs
    split<;>exact this
set_option maxHeartbeats 1600000 in
theorem beside_con(N x u on out:Nat)(vm:Value)(m:List Nat)(w:World)(B Bm:Nat)(own:Nat→Nat)(fo:Fo)(S:List PN)(s:PN)(hf:iY w B own fo S)(hx:S[x]? = some s)(hup:s.up=some u)(hN:Named S)
  (hm:∀i∈m,i<S.length) (hvm:Vec w Bm 94 1 vm (ptrs fo.b m)) (htm:fK own vm 0) (hoo:on+out≤1) (hB:B≤w.heap.size) (hNw:N≤w.heap.size)
  (hln:∀su,S[u]? = some su→su.attrs.length+m.length≤1000000000000∧su.kids.length+m.length≤1000000000000) :
  bV Tryz.prog 110 #[fQ fo.b x,.int .i64 on,.int .i64 out,vm] w (fun v' w'=>v'=.tuple #[]∧∃own' fo',DoOk N w w' B own own' fo fo' S (eD S x u on out m)):=by
 have hml:maxLen=9223372036854775807:=rfl
 have hu:=hN.up x s hx u hup
 obtain⟨su0,hsu0⟩:∃su0,S[u]? = some su0:=⟨_,List.getElem?_eq_getElem hu⟩
 have hln0:=hln su0 hsu0
 have hnb:=hf.nb x s hx
 refine enter aB Tryz.func110 (aV rfl) rfl rfl rfl ?_
 refine Load.here (hnb.blk.cells.one (k:=4) (by show some (upV fo.b s.up)=some (fQ fo.b u);rw[hup];rfl)) ?_
 refine aA.mk _ (take_con u _ vm m w B Bm own fo S hf rfl hvm htm hm (by omega)) ?_
 rintro v w1 ⟨-,hf1,hvm1,hC1⟩
 have hN1:=named_take hN hu m
 obtain⟨s1,hs1,hr1,-,-,hup1⟩:=gY (u:=u) (l:=m) hx
 obtain⟨su,hsu,-,ha1,hk1,-⟩:=gY (u:=u) (l:=m) hsu0
 have hlS:=aZ S u m
 have hbs:eD S x u on out m=if s1.row.kind=3
   then match posOf x su.attrs with
    | none=>bE S u m
    | some k=>(bE S u m).set u { su with attrs:=rH su.attrs (k+on) out m }
   else match posOf x su.kids with
    | none=>bE S u m
    | some k=>(bE S u m).set u { su with kids:=rH su.kids (k+on) out m }:=by
  unfold eD
  rw[hsu]
  simp only[kindOf,hx,hr1]
 rw[hbs]
 have hup1':s1.up=some u:=by
  rcases hup1 with h|h
  ·rw[h,hup]
  ·exact h
 have hnb1:=hf1.nb x s1 hs1
 have hxl:x<S.length:=(List.getElem?_eq_some_iff.1 hx).1
 have hD1:DoOk N w w1 B own own fo fo S (bE S u m):=⟨hf1,hC1.mono fun k hk=>by
  obtain⟨i,hi,rfl⟩:=hk
  exact .inl (by rw[(hf.nb i _ (List.getElem?_eq_getElem (hm i hi))).tag];omega),fun k _ h=>h,fun i _=>rfl⟩
 generalize hS1:bE S u m=S1 at *
 refine Load.here (hnb1.blk.cells.one (k:=4) (by show some (upV fo.b s1.up)=some (fQ fo.b u);rw[hup1'];rfl)) ?_
 refine Load.here (hnb1.blk.cells.one (k:=0) rfl) ?_
 refine Cond.join (X:=Nat) (fun off=>[(0,fQ fo.b x),(1,.int .i64 on),(2,.int .i64 out),(3,vm),(8,.pointer (some ((⟨fo.b u,0,none⟩:Addr).add off)))]) (fun off w'=>w'=w1∧off=if s1.row.kind=3 then 5 else 6) (fun g1=>?_) (fun g1=>?_) ?_
 ·have g1':=of_decide_eq_true g1
  refine Load.here (hnb1.blk.cells.one (k:=4) (by show some (upV fo.b s1.up)=some (fQ fo.b u);rw[hup1'];rfl)) ?_
  exact⟨5,⟨rfl,by rw[if_pos g1']⟩,rfl,rfl,rfl,rfl,rfl,trivial⟩
 ·have g1':=of_decide_eq_false g1
  exact⟨6,⟨rfl,by rw[if_neg g1']⟩,rfl,rfl,rfl,rfl,rfl,trivial⟩
 rintro off w' ⟨hw',hoff⟩
 subst hw'
 obtain⟨lv,ll,upd,hside,hll,hres⟩:∃lv ll upd,Side N w' B own fo S1 u off lv ll upd∧ll.length+m.length≤1000000000000∧(if s1.row.kind=3
   then match posOf x su.attrs with
    | none=>S1
    | some k=>S1.set u { su with attrs:=rH su.attrs (k+on) out m }
   else match posOf x su.kids with
    | none=>S1
    | some k=>S1.set u { su with kids:=rH su.kids (k+on) out m })=match posOf x ll with
    | none=>S1
    | some k=>upd (rH ll (k+on) out m):=by
  by_cases g:s1.row.kind=3
  ·rw[if_pos g]at hoff ⊢
   rw[hoff]
   exact⟨_,_,_,side_attrs (Nat.le_trans hNw hC1.size) hf1 hN1 hsu,by rw[ha1];exact hln0.1,rfl⟩
  ·rw[if_neg g]at hoff ⊢
   rw[hoff]
   exact⟨_,_,_,side_kids (Nat.le_trans hNw hC1.size) hf1 hN1 hsu,by rw[hk1];exact hln0.2,rfl⟩
 rw[hres]
 have hnbu:=hf1.nb u su hsu
 refine Load.here (hnbu.blk.cells.one (k:=off) (hside.at_ su hsu)) ?_
 refine aA.mk _ (Index_con lv ll x w' B own fo S1 hf1 hside.vec.sl hside.lt (by omega) (by omega)) ?_
 rintro v2 w2 ⟨hw2,hv2⟩
 subst hw2
 subst hv2
 cases hp:posOf x ll with
 | none=>
   simp only
   refine Cond.dec (fun g=>absurd g (by decide)) (fun _=>?_)
   exact And.intro rfl ⟨own,fo,hD1⟩
 | some k=>
   simp only
   obtain⟨hkl,-⟩:=List.findIdx?_eq_some_iff_getElem.1 hp
   refine Cond.dec (fun _=>?_) (fun g=>absurd (Int.natCast_nonneg k) g)
   refine Load.here (hnbu.blk.cells.one (k:=off) (hside.at_ su hsu)) ?_
   refine Ar.aM (k+on) (by omega) (by omega) ?_
   refine Ar.aM (k+on) (by omega) (by omega) ?_
   refine Ar.aM (k+on+out) (by omega) (by omega) ?_
   have hne:∀g,lv.ownBlock=some g→vm.ownBlock≠some g:=fun g hg e=>by
    have h1:=(hside.tag g hg).1
    exact h1 (htm g e)
   refine aA.mk _ (Replace_con lv vm ll m (k+on) out w2 B Bm fo.b hside.vec hvm1 hne (by omega) (by omega) hll (Nat.le_trans hB hC1.size)) ?_
   rintro v3 w3 hcut
   have hnb3:bQ w3 (fo.b u) (su.cells fo.b (fo.va u) (fo.vk u)) 145:=hcut.ch.blk hnbu.blk (fun e=>by
    obtain⟨-,t,h1,h2⟩:=hside.tag _ e
    rw[hnbu.tag]at h1
    omega)
   obtain⟨o3,c3,hve3,-,-,-,-,-⟩:=hcut.vec.shape
   have hoff6:off≤6:=by rw[hoff];split<;>omega
   refine bA.store (fo.b u) off _ [v3] 145 (by rw[bW,Nat.zero_add]) (by rw[hve3];rfl) (by kernel_rfl) hnb3 (by simp[PN.cells,Nd.cells];omega) (fun y hy=>by rw[List.mem_singleton.1 hy,hve3];rfl) fun w4 hU4=>?_
   obtain⟨own',fo',hD⟩:=hside.fin su w3 w4 v3 _ hsu hcut.ch hcut.vec hcut.fresh hU4
   exact And.intro rfl ⟨own',fo',hD1.trans hD (by omega)⟩
theorem apStep_old(n0:Nat)(st:oO)(n:Nd)(i:Nat)(hi:i<n0)(hle:n0≤st.S.length):(cK n0 st n).S[i]? = st.S[i]? := by
 have hl:∀s0:PN,(st.S++[s0])[i]? = st.S[i]? := fun s0=>List.getElem?_append_left (by omega)
 unfold cK
 simp only
 split
 ·split
  ·simp only
   rw[List.getElem?_set,if_neg (by omega)]
   exact hl _
  ·exact hl _
 ·split<;>exact hl _
theorem apRun_old(n0:Nat):∀(l:List Nd) (st:oO) (i:Nat),i<n0→n0≤st.S.length→(fF n0 st l).S[i]? = st.S[i]?
 | [],_,_,_,_=>rfl
 | n::r,st,i,hi,hle=>by
   show(fF n0 (cK n0 st n) r).S[i]? = _
   rw[apRun_old n0 r _ i hi (by rw[jW];omega),apStep_old n0 st n i hi hle]
theorem apRun_bd(n0:Nat):∀(l:List Nd) (st:oO) (k:Nat),ApBd n0 k st→n0≤st.S.length→ApBd n0 (k+l.length) (fF n0 st l)
 | [],_,_,h,_=>h
 | n::r,st,k,h,hle=>by
   have:=apRun_bd n0 r (cK n0 st n) (k+1) (apStep_bd h n hle) (by rw[jW];omega)
   rw[show k+(n::r).length=k+1+r.length by simp;omega]
   exact this
theorem sJ{S:List PN}(l:List Nd){i:Nat}(hi:i<S.length):(dI S l).S[i]? = S[i]? := apRun_old S.length l ⟨S,[],[]⟩ i hi (Nat.le_refl _)
theorem apartP_bd(S:List PN)(l:List Nd):ApBd S.length l.length (dI S l):=by
 have:=apRun_bd S.length l ⟨S,[],[]⟩ 0 ⟨by simp,by simp,fun i s hi hs=>by
  have:i<S.length:=(List.getElem?_eq_some_iff.1 hs).1
  omega⟩ (Nat.le_refl _)
 rw[Nat.zero_add]at this
 exact this
def dR(S:List PN)(x:Nat)(f:PN→PN):List PN:=match S[x]? with
 | some s=>S.set x (f s)
 | none=>S
def uZ(s:PN)(a k:List Nat):PN:={ s with attrs:=s.attrs++a,kids:=s.kids++k }
def iG(s:PN)(a k:List Nat):PN:={ s with attrs:=s.attrs++a,kids:=k++s.kids }
def rX(k:List Nat)(s:PN):PN:={ s with kids:=k }
def setVal(v:ByteArray)(s:PN):PN:={ s with row:={ s.row with value:=v } }
def setName(v:ByteArray)(s:PN):PN:={ s with row:={ s.row with name:=v } }
def jH(v:ByteArray):Nd:=⟨4,⟨#[]⟩,v,0⟩
def tT(S:List PN)(x:Nat):Nat:=match S[x]? with
 | some s=>s.up.getD 0
 | none=>0
def tQ(S:List PN)(p:Pt)(x:Nat):List PN:=
 let st:=dI S p.nodes
 if p.kind=1∨p.kind=7 then dR (bE (bE st.S x st.at_) x st.kd) x fun s=>uZ s st.at_ st.kd
 else if p.kind=6 then dR (bE (bE st.S x st.at_) x st.kd) x fun s=>iG s st.at_ st.kd
 else if p.kind=2 then dR st.S x (setVal p.text)
 else if p.kind=3 then dR st.S x (setName p.text)
 else if p.kind=4 then eD st.S x (tT S x) 0 0 st.kd
 else if p.kind=5 then eD st.S x (tT S x) 1 0 st.kd
 else if p.kind=8 then eD st.S x (tT S x) 0 1 (st.at_++st.kd)
 else if p.kind=9 then dR (bE (st.S++[⟨jH p.text,none,[],[]⟩]) x [st.S.length]) x (rX [st.S.length])
 else if p.kind=10 then eD st.S x (tT S x) 0 1 []
 else st.S
theorem _root_.Go.V.mK.trans{w w1 w2:World}{b:Nat}{cs ds:List Value}{t:TypeId}(h:mK w b cs t w1)(k:mK w1 b ds t w2):mK w b ds t w2:=
 ⟨h.old,by rw[k.w_eq,h.w_eq,setRow_setRow]⟩
theorem FoX.put2{w w1:World}{B:Nat}{own:Nat→Nat}{fo:Fo}{S:List PN}{x:Nat}{s:PN}(h:FoX w B own fo S x)(hx:S[x]? = some s){cs:List Value}(hU:mK w (fo.b x) cs 145 w1){va' vk':Value}{la lk:List Nat}
  (hcs:cs=PN.cells fo.b { s with attrs:=la,kids:=lk } va' vk') (hva:Vec w B 94 1 va' (ptrs fo.b la)) (hvk:Vec w B 94 1 vk' (ptrs fo.b lk)) (hta:∀g,va'.ownBlock=some g→own g=0∨own g=3*x+2) (htk:∀g,vk'.ownBlock=some g→own g=0∨own g=3*x+3)
  (hne:∀g,va'.ownBlock=some g→vk'.ownBlock≠some g) :
  ∃own' fo',iY w1 B own' fo' (S.set x { s with attrs:=la,kids:=lk })∧fo'.b=fo.b∧∀k,own k=0→va'.ownBlock≠some k→vk'.ownBlock≠some k→own' k=0:=by
 have hxl:=(List.getElem?_eq_some_iff.1 hx).1
 have hb:=h.nb x s hx
 refine⟨retag (retag own va' (3*x+2)) vk' (3*x+3),_,h.put (own':=retag (retag own va' (3*x+2)) vk' (3*x+3)) (s':={ s with attrs:=la,kids:=lk }) hx hU va' vk' hcs ?_ ?_ ?_ hva hvk ?_ (vR _ _ _) hb.tag,rfl,?_⟩
 ·intro k h1 h2 h3
  rw[dY (fun g hg e=>by have:=htk g hg;rw[←e]at this;omega),dY (fun g hg e=>by have:=hta g hg;rw[←e]at this;omega)]
 ·intro k hk
  rw[dY (fun g hg e=>by have:=(hvk.ge hg).2;omega),dY (fun g hg e=>by have:=(hva.ge hg).2;omega)]
  exact h.fresh k hk
 ·exact yP (yP h.bound (by omega)) (by omega)
 ·intro g hg
  rw[dY (fun g' hg' e=>hne g hg (by rw[e];exact hg'))]
  exact vR _ _ _ g hg
 ·intro k h1 h2 h3
  rw[dY (fun g hg e=>h3 (by rw[e];exact hg)),dY (fun g hg e=>h2 (by rw[e];exact hg))]
  exact h1
theorem run_build145t(b:Nat→Nat)(v:ByteArray)(w:World):(Instr.build 145 #[(0,.agg (jH v).cells.toArray)]).run Tryz.prog w=.ok (.agg (PN.cells b ⟨jH v,none,[],[]⟩ (.slice none 0 0) (.slice none 0 0)).toArray) w:=by kernel_rfl
theorem run_build50t(v:ByteArray)(w:World):(Instr.build 50 #[(0,.int .u8 4),(2,.string v)]).run Tryz.prog w=.ok (.agg (jH v).cells.toArray) w:=by kernel_rfl
set_option maxHeartbeats 6400000 in
theorem do_con(N x L:Nat)(r:aR)(p:Pt)(w:World)(B:Nat)(own:Nat→Nat)(fo:Fo)(S:List PN)(s:PN)(hf:iY w B own fo S)(hx:S[x]? = some s)(hr:gM w r p)(hN:Named S)(hB:B≤w.heap.size)(hNw:N≤w.heap.size)
  (hup:p.kind∈[4,5,8,10]→∃u,s.up=some u) (hpar:∀(i:Nat) (h:i<p.nodes.length),(p.nodes[i]).parent<i)
  (hL:∀(i:Nat) (s:PN),S[i]? = some s→s.attrs.length≤L∧s.kids.length≤L) (hLb:L+2*p.nodes.length≤1000000000000) :
  bV Tryz.prog 56 #[fQ fo.b x,.agg r.cells.toArray] w (fun v' w'=>v'=.tuple #[]∧∃own' fo',DoOk N w w' B own own' fo fo' S (tQ S p x)):=by
 have hml:maxLen=9223372036854775807:=rfl
 have hxl:x<S.length:=(List.getElem?_eq_some_iff.1 hx).1
 refine enter aB Tryz.func56 (aV rfl) rfl rfl rfl ?_
 refine aG.box r.cells rfl fun bp w1 n1=>?_
 have ebp:=n1.b_eq
 have s1:=n1.sz
 refine Load.here (n1.blk.cells.one (k:=3) rfl) ?_
 refine aA.mk _ (apart_con r.nodes p.nodes w1 B own fo S (hr.nodes.ext n1.ext) (hf.ext n1.ext) hN (by omega) hpar) ?_
 rintro v w2 ⟨own1,fo1,vall,vat,vkd,hv,hA⟩
 subst hv
 have hbp2:=n1.blk.ext hA.ext
 have hbd:=apartP_bd S p.nodes
 have hold:∀{i:Nat},i<S.length→(dI S p.nodes).S[i]? = S[i]? := fun hi=>sJ p.nodes hi
 obtain⟨st,hst⟩:∃st,st=dI S p.nodes:=⟨_,rfl⟩
 have hdoF:tQ S p x=(if p.kind=1∨p.kind=7 then dR (bE (bE st.S x st.at_) x st.kd) x fun s=>uZ s st.at_ st.kd
   else if p.kind=6 then dR (bE (bE st.S x st.at_) x st.kd) x fun s=>iG s st.at_ st.kd
   else if p.kind=2 then dR st.S x (setVal p.text)
   else if p.kind=3 then dR st.S x (setName p.text)
   else if p.kind=4 then eD st.S x (tT S x) 0 0 st.kd
   else if p.kind=5 then eD st.S x (tT S x) 1 0 st.kd
   else if p.kind=8 then eD st.S x (tT S x) 0 1 (st.at_++st.kd)
   else if p.kind=9 then dR (bE (st.S++[⟨jH p.text,none,[],[]⟩]) x [st.S.length]) x (rX [st.S.length])
   else if p.kind=10 then eD st.S x (tT S x) 0 1 []
   else st.S):=by
  rw[hst];rfl
 rw[hdoF]
 rw[←hst]at hA hbd
 have hold':∀{i:Nat},i<S.length→st.S[i]? = S[i]? := fun hi=>by rw[hst];exact hold hi
 clear hst hdoF
 have hsz12:=hA.ext.sz
 have hx2:st.S[x]? = some s:=by rw[hold' hxl];exact hx
 have hlen2:=hA.len
 have hD1:DoOk N w w2 B own own1 fo fo1 S st.S:=⟨hA.foat,Ch.aL (n1.ext.trans hA.ext),fun k hk ho=>by rw[hA.own k (by omega)];exact ho,hA.same⟩
 have hat:=hA.at_
 have hkd:=hA.kd
 have hbx:=hA.same x hxl
 have hLx:=hL x s hx
 have hptr:fQ fo.b x=fQ fo1.b x:=by unfold fQ;rw[hbx]
 have hnb:=hA.foat.nb x s hx2
 have hnv:=hA.foat.nv x s hx2
 have hatl:∀i∈st.at_,i<st.S.length∧i≠x:=fun i hi=>by have:=hA.ok.at_ i hi;omega
 have hkdl:∀i∈st.kd,i<st.S.length∧i≠x:=fun i hi=>by have:=hA.ok.kd i hi;omega
 have hfr1:∀g,own1 g≠0∨N≤g→own1 g≠0∨N≤g:=fun g h=>h
 have hM1:∀(l:List Nat),(∀i∈l,i<st.S.length∧i≠x)→∀k,(∃i∈l,k=fo1.b i)→own1 k≠0∨N≤k:=fun l hl k hk=>by
  obtain⟨i,hi,rfl⟩:=hk
  exact .inl (by rw[(hA.foat.nb i _ (List.getElem?_eq_getElem (hl i hi).1)).tag];omega)
 have hnx:∀(l:List Nat),(∀i∈l,i<st.S.length∧i≠x)→¬∃i∈l,fo1.b x=fo1.b i:=fun l hl hk=>by
  obtain⟨i,hi,e⟩:=hk
  exact(hl i hi).2 (hA.foat.inj (hl i hi).1 (by omega) e.symm)
 have hnt:∀(l:List Nat) (v:Value) (t:Nat),fK own1 v t→(∀j,t≠3*j+1)→(∀i∈l,i<st.S.length∧i≠x)→∀g,v.ownBlock=some g→¬∃i∈l,g=fo1.b i:=fun l v t hv ht hl g hg hk=>by
  obtain⟨i,hi,e⟩:=hk
  have h1:=hv g hg
  rw[e,(hA.foat.nb i _ (List.getElem?_eq_getElem (hl i hi).1)).tag]at h1
  exact ht i h1.symm
 refine Load.here (hbp2.cells.one (k:=0) rfl) ?_
 rw[hr.kind]
 refine Cond.join (X:=Unit) (fun _=>[(0,fQ fo1.b x),(3,.pointer (some ⟨bp,0,none⟩)),(5,vat),(6,vkd),(15,.int .u8 p.kind),(16,.bool (decide (p.kind=1∨p.kind=7)))]) (fun _ w'=>w'=w2) (fun g1=>?_) (fun g1=>?_) ?_
 ·have g1':=of_decide_eq_true g1
  refine⟨(),rfl,congrArg some hptr,rfl,rfl,rfl,rfl,?_,trivial⟩
  exact congrArg (fun b=>some (Value.bool b)) (by simp[g1'])
 ·have g1':=of_decide_eq_false g1
  refine⟨(),rfl,congrArg some hptr,rfl,rfl,rfl,rfl,?_,trivial⟩
  exact congrArg (fun b=>some (Value.bool b)) (by simp[g1'])
 rintro _ w' hw'
 subst hw'
 have hEd:=Ext.drew w'
 have hblk:=hnb.blk.ext hEd
 have hneo:∀(a b:Value) (ta tb:Nat),fK own1 a ta→fK own1 b tb→ta≠tb→a.ownBlock=none∨a.ownBlock≠b.ownBlock:=fun a b ta tb ha hb hne=>by
  cases h:a.ownBlock with
  | none=>exact .inl rfl
  | some g=>exact .inr (fun e=>by
    have h1:=ha g h
    have h2:=hb g e.symm
    omega)
 have hxat:x ∉ st.at_:=fun h=>(hatl x h).2 rfl
 have hxkd:x ∉ st.kd:=fun h=>(hkdl x h).2 rfl
 have hS3x:(bE (bE st.S x st.at_) x st.kd)[x]? = some s:=by
  rw[jP,jP,hx2]
  simp[hxat,hxkd]
 have hlS1:=aZ st.S x st.at_
 have hlS2:=aZ (bE st.S x st.at_) x st.kd
 have hbat:=hbd.at_
 have hbkd:=hbd.kd
 refine Cond.dec (fun g17=>?_) (fun g17=>?_)
 ·
  rw[if_pos g17]
  refine aQ.mk aB mixed [(0,true),(1,true),(2,true),(3,true),(4,true),(5,true),(6,true),(7,true),(10,true),(11,true),(12,true),(13,true),(14,true),(15,true),(8,false),(9,false),(16,false),(17,false),(18,true),(19,true),(20,false),(21,true),(22,true),(23,false)] [20,23] (by kernel_rfl)
   (fun w'=>bQ w' (fo1.b x) (s.cells fo1.b (fo1.va x) (fo1.vk x)) 145) hblk ?_
  refine .mk (fo1.va x) (fun _ e=>e.cells.one (k:=5) rfl) ?_
  refine .mk (fo1.vk x) (fun _ e=>e.cells.one (k:=6) rfl) ?_
  refine aA.mk _ (rZ x x _ vat st.at_ _ B w1.heap.size own1 fo1 st.S ((hA.foat.ext hEd).x x) rfl (hat.ext hEd) hA.tt hatl (by omega)) ?_
  rintro v4 w4 ⟨hv4,hX4,hat4,hC4⟩
  rw[hv4]
  clear hv4
  have hsz4:=hC4.size
  have hsd:w'.drew.heap.size=w'.heap.size:=rfl
  have hblk4:=hC4.blk hblk (hnx st.at_ hatl)
  refine Need.mk hblk4 ?_
  have hva4:=hC4.vec (hnv.va.ext hEd) (hnt st.at_ _ _ hnv.ta (by intro j;omega) hatl)
  have hvk4:=hC4.vec (hnv.vk.ext hEd) (hnt st.at_ _ _ hnv.tk (by intro j;omega) hatl)
  have hkd4:=hC4.vec (hkd.ext hEd) (hnt st.at_ _ _ hA.tk (by intro j;omega) hatl)
  refine bD.append iH B _ (ptrs fo1.b st.at_) hva4 hat4.sl (lZ _ _) (by rw[aW,aW];omega) (by rw[aW,aW];omega) (by omega) fun va5 w5 hva5 har5=>?_
  rw[←jJ]at hva5
  have hsz5:=har5.sz
  have hblk5:=har5.blk hblk4 (fun e=>by have h1:=hnv.ta _ e;rw[hnb.tag]at h1;omega)
  refine Need.mk hblk5 ?_
  have hX5:=hX4.ch (Ch.cO (M:=fun k=>(fo1.va x).ownBlock=some k) har5 (fun b h=>h)) (fun k _ hk=>.inr (.inl (hnv.ta k hk)))
  have hkd5:=har5.vec hkd4 (hneo _ _ _ _ hA.tk hnv.ta (by omega))
  have hvk5:=har5.vec hvk4 (hneo _ _ _ _ hnv.tk hnv.ta (by omega))
  refine aA.mk _ (rZ x x _ vkd st.kd _ B w1.heap.size own1 fo1 _ hX5 rfl hkd5 hA.tk (by rw[hlS1];exact hkdl) (by omega)) ?_
  rintro v6 w6 ⟨hv6,hX6,hkd6,hC6⟩
  rw[hv6]
  clear hv6
  have hsz6:=hC6.size
  have hblk6:=hC6.blk hblk5 (hnx st.kd hkdl)
  refine Need.mk hblk6 ?_
  have hva6:=hC6.vec hva5 (fun g hg hk=>by
   obtain⟨i,hi,e⟩:=hk
   have hnbi:=hA.foat.nb i _ (List.getElem?_eq_getElem (hkdl i hi).1)
   rcases har5.fresh g hg with h|h
   ·have h1:=hnv.ta g h
    rw[e,hnbi.tag]at h1
    omega
   ·have:=hnbi.blk.lt
    omega)
  have hvk6:=hC6.vec hvk5 (hnt st.kd _ _ hnv.tk (by intro j;omega) hkdl)
  refine bD.append iH B _ (ptrs fo1.b st.kd) hvk6 hkd6.sl (lZ _ _) (by rw[aW,aW];omega) (by rw[aW,aW];omega) (by omega) fun vk7 w7 hvk7 har7=>?_
  rw[←jJ]at hvk7
  have hsz7:=har7.sz
  have hblk7:=har7.blk hblk6 (fun e=>by have h1:=hnv.tk _ e;rw[hnb.tag]at h1;omega)
  refine Need.mk hblk7 ?_
  have hX7:=hX6.ch (Ch.cO (M:=fun k=>(fo1.vk x).ownBlock=some k) har7 (fun b h=>h)) (fun k _ hk=>.inr (.inr (hnv.tk k hk)))
  have hd57:∀g,va5.ownBlock=some g→(fo1.vk x).ownBlock≠some g:=fun g hg e=>by
   have h1:=hnv.tk g e
   rcases har5.fresh g hg with h|h
   ·have:=hnv.ta g h;omega
   ·have:=(hvk4.ge e).2;omega
  have hva7:=har7.vec hva6 (by
   cases h:va5.ownBlock with
   | none=>exact .inl rfl
   | some g=>exact .inr (fun e=>hd57 g h e.symm))
  obtain⟨oa,ca,hea,-,-,-,-,-⟩:=hva7.shape
  obtain⟨ok,ck,hek,-,-,-,-,-⟩:=hvk7.shape
  refine bA.store (fo1.b x) 5 _ [va5] 145 rfl (by rw[hea];rfl) (by kernel_rfl) hblk7 (by simp[PN.cells,Nd.cells]) (fun y hy=>by rw[List.mem_singleton.1 hy,hea];rfl) fun w8 hU8=>?_
  refine bA.store (fo1.b x) 6 _ [vk7] 145 rfl (by rw[hek];rfl) (by kernel_rfl) hU8.blk (by simp[PN.cells,Nd.cells,splice]) (fun y hy=>by rw[List.mem_singleton.1 hy,hek];rfl) fun w9 hU9=>?_
  have hfr7:∀g,vk7.ownBlock=some g→(fo1.vk x).ownBlock=some g∨w6.heap.size≤g:=har7.fresh
  obtain⟨own',fo',hF,hfb,hkeep⟩:=hX7.put2 (la:=s.attrs++st.at_) (lk:=s.kids++st.kd) (va':=va5) (vk':=vk7) hS3x (hU8.trans hU9) rfl hva7 hvk7 (fun g hg=>by
   rcases har5.fresh g hg with h|h
   ·exact .inr (hnv.ta g h)
   ·exact .inl (hA.foat.fresh g (by omega))) (fun g hg=>by
   rcases hfr7 g hg with h|h
   ·exact .inr (hnv.tk g h)
   ·exact .inl (hA.foat.fresh g (by omega))) (fun g hg e=>by
   rcases hfr7 g e with h|h
   ·exact hd57 g hg h
   ·have:=(hva6.ge hg).2;omega)
  refine And.intro rfl ⟨own',fo',hD1.trans ⟨?_,?_,?_,fun i _=>by rw[hfb]⟩ (by omega)⟩
  ·simp only[dR,hS3x]
   exact hF
  ·refine((((((Ch.aL hEd).trans (hC4.mono (hM1 st.at_ hatl))).trans (Ch.cO har5 fun b h=>.inl (by rw[hnv.ta b h];omega))).trans (hC6.mono (hM1 st.kd hkdl))).trans (Ch.cO har7 fun b h=>.inl (by rw[hnv.tk b h];omega))).trans (Ch.bG hU8 (.inl (by rw[hnb.tag];omega)))).trans (Ch.bG hU9 (.inl (by rw[hnb.tag];omega)))
  ·intro k hk ho
   refine hkeep k ho (fun e=>?_) (fun e=>?_)
   ·rcases har5.fresh k e with h|h
    ·rw[hnv.ta k h]at ho;omega
    ·omega
   ·rcases hfr7 k e with h|h
    ·rw[hnv.tk k h]at ho;omega
    ·omega
 rw[if_neg g17]
 refine Cond.dec (fun g6=>?_) (fun g6=>?_)
 ·
  rw[if_pos g6]
  refine aQ.mk aB mixed [(0,true),(1,true),(2,true),(3,true),(4,true),(5,true),(6,true),(7,true),(10,true),(11,true),(13,true),(14,true),(15,true),(16,true),(8,false),(9,false),(12,false),(17,false),(18,true),(19,true),(20,false),(21,true),(22,true),(23,false)] [20,23] (by kernel_rfl)
   (fun w'=>bQ w' (fo1.b x) (s.cells fo1.b (fo1.va x) (fo1.vk x)) 145) hblk ?_
  refine .mk (fo1.va x) (fun _ e=>e.cells.one (k:=5) rfl) ?_
  refine .mk (fo1.vk x) (fun _ e=>e.cells.one (k:=6) rfl) ?_
  refine aA.mk _ (rZ x x _ vat st.at_ _ B w1.heap.size own1 fo1 st.S ((hA.foat.ext hEd).x x) rfl (hat.ext hEd) hA.tt hatl (by omega)) ?_
  rintro v4 w4 ⟨hv4,hX4,hat4,hC4⟩
  rw[hv4]
  clear hv4
  have hsz4:=hC4.size
  have hsd:w'.drew.heap.size=w'.heap.size:=rfl
  have hblk4:=hC4.blk hblk (hnx st.at_ hatl)
  refine Need.mk hblk4 ?_
  have hva4:=hC4.vec (hnv.va.ext hEd) (hnt st.at_ _ _ hnv.ta (by intro j;omega) hatl)
  have hvk4:=hC4.vec (hnv.vk.ext hEd) (hnt st.at_ _ _ hnv.tk (by intro j;omega) hatl)
  have hkd4:=hC4.vec (hkd.ext hEd) (hnt st.at_ _ _ hA.tk (by intro j;omega) hatl)
  refine bD.append iH B _ (ptrs fo1.b st.at_) hva4 hat4.sl (lZ _ _) (by rw[aW,aW];omega) (by rw[aW,aW];omega) (by omega) fun va5 w5 hva5 har5=>?_
  rw[←jJ]at hva5
  have hsz5:=har5.sz
  have hblk5:=har5.blk hblk4 (fun e=>by have h1:=hnv.ta _ e;rw[hnb.tag]at h1;omega)
  refine Need.mk hblk5 ?_
  have hX5:=hX4.ch (Ch.cO (M:=fun k=>(fo1.va x).ownBlock=some k) har5 (fun b h=>h)) (fun k _ hk=>.inr (.inl (hnv.ta k hk)))
  have hkd5:=har5.vec hkd4 (hneo _ _ _ _ hA.tk hnv.ta (by omega))
  have hvk5:=har5.vec hvk4 (hneo _ _ _ _ hnv.tk hnv.ta (by omega))
  refine aA.mk _ (rZ x x _ vkd st.kd _ B w1.heap.size own1 fo1 _ hX5 rfl hkd5 hA.tk (by rw[hlS1];exact hkdl) (by omega)) ?_
  rintro v6 w6 ⟨hv6,hX6,hkd6,hC6⟩
  rw[hv6]
  clear hv6
  have hsz6:=hC6.size
  have hblk6:=hC6.blk hblk5 (hnx st.kd hkdl)
  refine Need.mk hblk6 ?_
  have hva6:=hC6.vec hva5 (fun g hg hk=>by
   obtain⟨i,hi,e⟩:=hk
   have hnbi:=hA.foat.nb i _ (List.getElem?_eq_getElem (hkdl i hi).1)
   rcases har5.fresh g hg with h|h
   ·have h1:=hnv.ta g h
    rw[e,hnbi.tag]at h1
    omega
   ·have:=hnbi.blk.lt
    omega)
  have hvk6:=hC6.vec hvk5 (hnt st.kd _ _ hnv.tk (by intro j;omega) hkdl)
  refine bD.append iH B _ (ptrs fo1.b s.kids) (hkd6.dJ (by omega)) hvk6.sl (lZ _ _) (by rw[aW,aW];omega) (by rw[aW,aW];omega) (by omega) fun vk7 w7 hvk7 har7=>?_
  rw[←jJ]at hvk7
  have hsz7:=har7.sz
  have hblk7:=har7.blk hblk6 (fun e=>by have h1:=hA.tk _ e;rw[hnb.tag]at h1;omega)
  refine Need.mk hblk7 ?_
  have hX7:=hX6.ch (Ch.cO (M:=fun k=>vkd.ownBlock=some k) har7 (fun b h=>h)) (fun k _ hk=>.inl (hA.tk k hk))
  have hd57:∀g,va5.ownBlock=some g→vkd.ownBlock≠some g:=fun g hg e=>by
   have h1:=hA.tk g e
   rcases har5.fresh g hg with h|h
   ·have:=hnv.ta g h;omega
   ·have:=(hkd4.ge e).2;omega
  have hva7:=har7.vec hva6 (by
   cases h:va5.ownBlock with
   | none=>exact .inl rfl
   | some g=>exact .inr (fun e=>hd57 g h e.symm))
  obtain⟨oa,ca,hea,-,-,-,-,-⟩:=hva7.shape
  obtain⟨ok,ck,hek,-,-,-,-,-⟩:=hvk7.shape
  refine bA.store (fo1.b x) 5 _ [va5] 145 rfl (by rw[hea];rfl) (by kernel_rfl) hblk7 (by simp[PN.cells,Nd.cells]) (fun y hy=>by rw[List.mem_singleton.1 hy,hea];rfl) fun w8 hU8=>?_
  refine bA.store (fo1.b x) 6 _ [vk7] 145 rfl (by rw[hek];rfl) (by kernel_rfl) hU8.blk (by simp[PN.cells,Nd.cells,splice]) (fun y hy=>by rw[List.mem_singleton.1 hy,hek];rfl) fun w9 hU9=>?_
  have hfr7:∀g,vk7.ownBlock=some g→vkd.ownBlock=some g∨w6.heap.size≤g:=har7.fresh
  obtain⟨own',fo',hF,hfb,hkeep⟩:=hX7.put2 (la:=s.attrs++st.at_) (lk:=st.kd++s.kids) (va':=va5) (vk':=vk7) hS3x (hU8.trans hU9) rfl hva7 hvk7 (fun g hg=>by
   rcases har5.fresh g hg with h|h
   ·exact .inr (hnv.ta g h)
   ·exact .inl (hA.foat.fresh g (by omega))) (fun g hg=>by
   rcases hfr7 g hg with h|h
   ·exact .inl (hA.tk g h)
   ·exact .inl (hA.foat.fresh g (by omega))) (fun g hg e=>by
   rcases hfr7 g e with h|h
   ·exact hd57 g hg h
   ·have:=(hva6.ge hg).2;omega)
  refine And.intro rfl ⟨own',fo',hD1.trans ⟨?_,?_,?_,fun i _=>by rw[hfb]⟩ (by omega)⟩
  ·simp only[dR,hS3x]
   exact hF
  ·refine((((((Ch.aL hEd).trans (hC4.mono (hM1 st.at_ hatl))).trans (Ch.cO har5 fun b h=>.inl (by rw[hnv.ta b h];omega))).trans (hC6.mono (hM1 st.kd hkdl))).trans (Ch.cO har7 fun b h=>.inr (by have:=(hkd.ge h).1;omega))).trans (Ch.bG hU8 (.inl (by rw[hnb.tag];omega)))).trans (Ch.bG hU9 (.inl (by rw[hnb.tag];omega)))
  ·intro k hk ho
   refine hkeep k ho (fun e=>?_) (fun e=>?_)
   ·rcases har5.fresh k e with h|h
    ·rw[hnv.ta k h]at ho;omega
    ·omega
   ·rcases hfr7 k e with h|h
    ·have:=(hkd.ge h).1;omega
    ·omega
 rw[if_neg g6]
 refine Cond.dec (fun g2=>?_) (fun g2=>?_)
 ·rw[if_pos g2]
  refine Load.here (hbp2.cells.one (k:=2) rfl) ?_
  refine bA.store (fo1.b x) 2 _ [.string r.text] 145 rfl rfl (by kernel_rfl) hnb.blk (by simp[PN.cells,Nd.cells]) (fun y hy=>by rw[List.mem_singleton.1 hy];rfl) fun w3 hU3=>?_
  have hF:=hA.foat.put (s':=setVal p.text s) hx2 hU3 (by rw[hr.text];rfl) rfl rfl
  refine And.intro rfl ⟨own1,fo1,hD1.trans ⟨?_,Ch.bG hU3 (.inl (by rw[hnb.tag];omega)),fun k _ h=>h,fun i _=>rfl⟩ (by omega)⟩
  simp only[dR,hx2]
  exact hF
 rw[if_neg g2]
 refine Cond.dec (fun g3=>?_) (fun g3=>?_)
 ·rw[if_pos g3]
  refine Load.here (hbp2.cells.one (k:=2) rfl) ?_
  refine bA.store (fo1.b x) 1 _ [.string r.text] 145 rfl rfl (by kernel_rfl) hnb.blk (by simp[PN.cells,Nd.cells]) (fun y hy=>by rw[List.mem_singleton.1 hy];rfl) fun w3 hU3=>?_
  have hF:=hA.foat.put (s':=setName p.text s) hx2 hU3 (by rw[hr.text];rfl) rfl rfl
  refine And.intro rfl ⟨own1,fo1,hD1.trans ⟨?_,Ch.bG hU3 (.inl (by rw[hnb.tag];omega)),fun k _ h=>h,fun i _=>rfl⟩ (by omega)⟩
  simp only[dR,hx2]
  exact hF
 rw[if_neg g3]
 have hbes:∀(on out:Nat) (vm:Value) (m:List Nat) (w3:World),p.kind∈[4,5,8,10]→on+out≤1→Ch (fun k=>own1 k=0∧N≤k) w' w3→(∀i∈m,i<st.S.length)→m.length≤2*p.nodes.length→Vec w3 B 94 1 vm (ptrs fo1.b m)→fK own1 vm 0→iY w3 B own1 fo1 st.S→
   bV Tryz.prog 110 #[fQ fo1.b x,.int .i64 on,.int .i64 out,vm] w3 (fun v' w4=>v'=.tuple #[]∧∃own' fo',DoOk N w w4 B own own' fo fo' S (eD st.S x (tT S x) on out m)):=by
  intro on out vm m w3 hk hoo hC hm hml2 hvm htm hf3
  obtain⟨u,hu⟩:=hup hk
  have hul:=hN.up x s hx u hu
  have huo:tT S x=u:=by simp[tT,hx,hu]
  rw[huo]
  have hsz3:=hC.size
  refine(beside_con N x u on out vm m w3 B B own1 fo1 st.S s hf3 hx2 hu hA.ok.named hm hvm htm hoo (by omega) (by omega) (fun su hsu=>by
   rw[hold' hul]at hsu
   have:=hL u su hsu
   omega)).mono ?_
  rintro v' w4 ⟨hv',own',fo',hD⟩
  exact⟨hv',own',fo',(hD1.trans ⟨hf3,hC.mono fun k hk=>.inr hk.2,fun k _ h=>h,fun i _=>rfl⟩ (by omega)).trans hD (by omega)⟩
 have hkdB:Vec w' B 94 1 vkd (ptrs fo1.b st.kd):=hkd.dJ (by omega)
 have hatB:Vec w' B 94 1 vat (ptrs fo1.b st.at_):=hat.dJ (by omega)
 refine Cond.dec (fun g4=>?_) (fun g4=>?_)
 ·rw[if_pos g4]
  refine aA.mk _ (hbes 0 0 vkd st.kd w' (by rw[g4];decide) (by omega) (Ch.refl _ _) (fun i hi=>(hkdl i hi).1) (by omega) hkdB hA.tk hA.foat) ?_
  rintro v' w3 ⟨-,own',fo',hD⟩
  exact And.intro rfl ⟨own',fo',hD⟩
 rw[if_neg g4]
 refine Cond.dec (fun g5=>?_) (fun g5=>?_)
 ·rw[if_pos g5]
  refine aA.mk _ (hbes 1 0 vkd st.kd w' (by rw[g5];decide) (by omega) (Ch.refl _ _) (fun i hi=>(hkdl i hi).1) (by omega) hkdB hA.tk hA.foat) ?_
  rintro v' w3 ⟨-,own',fo',hD⟩
  exact And.intro rfl ⟨own',fo',hD⟩
 rw[if_neg g5]
 refine Cond.dec (fun g8=>?_) (fun g8=>?_)
 ·rw[if_pos g8]
  refine bD.append iH B _ (ptrs fo1.b st.kd) hatB hkdB.sl (lZ _ _) (by rw[aW,aW];omega) (by rw[aW,aW];omega) (by omega) fun v3 w3 hv3 har3=>?_
  rw[←jJ]at hv3
  have hC3:Ch (fun k=>own1 k=0∧N≤k) w' w3:=Ch.cO har3 fun b h=>⟨hA.tt b h,by have:=(hat.ge h).1;omega⟩
  refine aA.mk _ (hbes 0 1 v3 (st.at_++st.kd) w3 (by rw[g8];decide) (by omega) hC3 (fun i hi=>by
   rcases List.mem_append.1 hi with h|h
   ·exact(hatl i h).1
   ·exact(hkdl i h).1) (by rw[List.length_append];omega) hv3 (fun g hg=>by
   rcases har3.fresh g hg with h|h
   ·exact hA.tt g h
   ·exact hA.foat.fresh g h) (hA.foat.ch hC3 (fun k _ h=>h.1))) ?_
  rintro v' w4 ⟨-,own',fo',hD⟩
  exact And.intro rfl ⟨own',fo',hD⟩
 rw[if_neg g8]
 refine Cond.dec (fun g9=>?_) (fun g9=>?_)
 ·rw[if_pos g9]
  refine Load.here (hbp2.cells.one (k:=2) rfl) ?_
  refine aG.mk _ _ (run_build50t _ _) ?_
  refine aG.mk _ _ (run_build145t fo1.b _ _) ?_
  refine aG.box _ rfl fun b3 w3 n3=>?_
  rw[hr.text]at n3
  have eb3:=n3.b_eq
  have sz3:=n3.sz
  have hf3:=hA.foat.add (r:=jH p.text) hA.ok.named n3 (by omega)
  have hrun:=kI (some ⟨b3,0,none⟩) w3
  obtain⟨w4,hw4⟩:∃w4,w4=w3.alloc (.cells #[.pointer (some ⟨b3,0,none⟩)] 94):=⟨_,rfl⟩
  rw[←hw4]at hrun
  refine aG.mk _ w4 hrun ?_
  have n4:bO w3 w3.heap.size [.pointer (some ⟨b3,0,none⟩)] 94 w4:=⟨rfl,hw4⟩
  have sz4:=n4.sz
  have hf4:=hf3.ext n4.ext
  obtain⟨own3,hown3⟩:∃own3,own3=bN own1 b3 (3*st.S.length+1):=⟨_,rfl⟩
  obtain⟨fo3,hfo3⟩:∃fo3:Fo,fo3=⟨bN fo1.b st.S.length b3,bN fo1.va st.S.length (.slice none 0 0),bN fo1.vk st.S.length (.slice none 0 0)⟩:=⟨_,rfl⟩
  rw[←hown3,←hfo3]at hf4
  have hb3x:fo3.b x=fo1.b x:=by rw[hfo3];exact dS _ _ (by omega)
  have hb3n:fo3.b st.S.length=b3:=by rw[hfo3];exact dD _ _ _
  have hsl:Vec w4 B 94 1 (.slice (some ⟨w3.heap.size,0,none⟩) 1 1) (ptrs fo3.b [st.S.length]):=Buf.vec (g:=w3.heap.size) (cap:=1) (cur:=[.pointer (some ⟨b3,0,none⟩)]) ⟨rfl,n4.blk,by omega,rfl,by simp,by simp[maxLen],by simp[vals,fQ,hb3n]⟩
  have hst0:fK own3 (.slice (some ⟨w3.heap.size,0,none⟩) 1 1) 0:=fun g hg=>by
   have hge:w3.heap.size=g:=Option.some.inj hg
   rw[hown3,dS _ _ (by omega)]
   exact hA.foat.fresh _ (by omega)
  refine aA.mk _ (take_con x _ _ [st.S.length] w4 B B own3 fo3 _ hf4 (by rw[hb3x]) hsl hst0 (by simp) (by simp)) ?_
  rintro v5 w5 ⟨hv5,hf5,hvs5,hC5⟩
  rw[hv5]
  clear hv5
  have hxn:x≠st.S.length:=by omega
  have hS4x:(bE (st.S++[⟨jH p.text,none,[],[]⟩]) x [st.S.length])[x]? = some s:=by
   rw[jP,List.getElem?_append_left (by omega),hx2]
   simp[hxn]
  have hnb5:=hf5.nb x s hS4x
  have hnv5:=hf5.nv x s hS4x
  refine bA.store (fo3.b x) 6 _ [.slice (some ⟨w3.heap.size,0,none⟩) 1 1] 145 (by rw[hb3x,bW]) rfl (by kernel_rfl) hnb5.blk (by simp[PN.cells,Nd.cells]) (fun y hy=>by rw[List.mem_singleton.1 hy];rfl) fun w6 hU6=>?_
  have hF:=(hf5.x x).setKids (l:=[st.S.length]) hS4x hU6 rfl hvs5 (fun g hg=>.inl (hst0 g hg)) hnv5.va hnv5.ta
  refine And.intro rfl ⟨retag own3 (.slice (some ⟨w3.heap.size,0,none⟩) 1 1) (3*x+3),{ fo3 with vk:=bN fo3.vk x (.slice (some ⟨w3.heap.size,0,none⟩) 1 1) },hD1.trans ⟨?_,?_,?_,fun i hi=>?_⟩ (by omega)⟩
  ·simp only[dR,hS4x]
   exact hF
  ·refine((Ch.aL (n3.ext.trans n4.ext)).trans (hC5.mono fun k hk=>?_)).trans (Ch.bG hU6 (.inl (by rw[hb3x,hnb.tag];omega)))
   obtain⟨i,hi,e⟩:=hk
   rw[List.mem_singleton.1 hi,hb3n]at e
   exact .inr (by omega)
  ·intro k hk ho
   rw[dY (fun g hg e=>by have hge:w3.heap.size=g:=Option.some.inj hg;omega),hown3,dS _ _ (by omega)]
   exact ho
  ·show fo3.b i=fo1.b i
   rw[hfo3]
   exact dS _ _ (by omega)
 rw[if_neg g9]
 refine Cond.dec (fun g10=>?_) (fun g10=>?_)
 ·rw[if_pos g10]
  refine aA.mk _ (hbes 0 1 (.slice none 0 0) [] w' (by rw[g10];decide) (by omega) (Ch.refl _ _) (fun i hi=>by cases hi) (Nat.zero_le _) (Vec.nil _ _ _ _) (fun g h=>by cases h) hA.foat) ?_
  rintro v' w3 ⟨-,own',fo',hD⟩
  exact And.intro rfl ⟨own',fo',hD⟩
 rw[if_neg g10]
 exact And.intro rfl ⟨own1,fo1,hD1⟩
end Go.Proofs.YtelffdgcikceaaaGreatDoor
end
