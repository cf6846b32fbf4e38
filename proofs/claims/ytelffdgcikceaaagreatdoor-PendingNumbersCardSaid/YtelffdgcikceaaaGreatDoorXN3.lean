/- Texts L3, L4, L5, L6, L7, L8, L9, N1, N2, N3. Parts lent, kept, written over. -/
import Derived.Test.YtelffdgcikceaaaGreatDoorXN2
set_option linter.unusedSimpArgs false
set_option linter.unusedVariables false
section
namespace Go.Proofs.YtelffdgcikceaaaGreatDoor
open Go.V
open Go.RowKit (Below)
def xK(k i:Nat):aR:=⟨0,markV k i,⟨#[]⟩,.slice none 0 0⟩
def mkPt(k i:Nat):Pt:=⟨0,markV k i,⟨#[]⟩,[]⟩
def lY(k n:Nat):List aR:=(List.range n).map (xK k)
theorem pF(k n:Nat):(lY k n).length=n:=by simp[lY]
theorem marksR_get(k n i:Nat)(h:i<n):(lY k n)[i]? = some (xK k i):=by simp[lY,h]
theorem marksR_succ(k n:Nat):lY k (n+1)=lY k n++[xK k n]:=by simp[lY,List.range_succ]
theorem qE(k i:Nat):∀u∈(xK k i).cells,u.oneCell'=true:=fun u hu=>by
 simp only[xK,aR.cells,List.mem_cons,List.not_mem_nil,or_false]at hu
 rcases hu with rfl|rfl|rfl|rfl<;>rfl
theorem qR(w:World)(k i:Nat)(hk:k≤1000000)(hi:i≤1000000000000):gM w (xK k i) (mkPt k i):=by
 have h0:(⟨#[]⟩:ByteArray).size=0:=rfl
 refine⟨rfl,rfl,rfl,⟨eO.nil _ _,(fun n h=>by cases h),by simp[mkPt]⟩,by simp[mkPt],?_,?_⟩
 ·simp only[mkPt,markV];omega
 ·simp only[mkPt,h0];omega
theorem run_build41(p:Int)(w:World):(Instr.build 41 #[(1,.int .i64 p)]).run Tryz.prog w=.ok (.agg #[.int .u8 0,.int .i64 p,.string ⟨#[]⟩,.slice none 0 0]) w:=by kernel_rfl
theorem fP(k i:Nat)(w:World)(hk:k≤1000000)(hi:i≤1000000000000):bV Tryz.prog 33 #[.int .i64 k,.int .i64 i] w (fun v w'=>v=.agg (xK k i).cells.toArray∧Ext w w'):=by
 refine enter aB Tryz.func33 (aV rfl) rfl rfl rfl ?_
 refine aG.alloc _ [.int .u8 0,.int .i64 0,.string ⟨#[]⟩,.slice none 0 0] jI rfl fun b w1 n1=>?_
 refine aA.mk _ (mark_con k i w1 hk hi) ?_
 rintro v w2 ⟨hv,hw⟩
 have hw':=hw.symm
 subst hv hw'
 refine aG.mk _ _ (run_build41 _ _) ?_
 refine bA.store b 0 _ (xK k i).cells 41 rfl rfl (by kernel_rfl) n1.blk (by simp[aR.cells]) (qE k i) fun w3 hU=>?_
 have n3:=n1.upd hU
 have hb:bQ w3 b (xK k i).cells 41:=n3.blk
 refine Load.here (hb.cells.all' rfl) ?_
 exact And.intro rfl n3.ext
theorem oL(o:Option Addr)(n m c:Nat):(Value.slice o n c).ownBlock=(Value.slice o m c).ownBlock:=by cases o<;>rfl
theorem iU.ch{M:Nat→Prop}{w w':World}{B:Nat}{v:Value}{l:List Nd}(h:iU w B v l)(hC:Ch M w w')(hM:∀g,v.ownBlock=some g→¬M g):iU w' B v l:=by
 obtain⟨o,c,rfl,hv⟩:=h.ex
 exact⟨⟨o,c,rfl,hC.vec hv fun g hg=>hM g (by rw[oL o _ (l.length+12)];exact hg)⟩,h.wf,h.len⟩
theorem iU.mono{w:World}{B B':Nat}{v:Value}{l:List Nd}(h:iU w B v l)(hB:B'≤B):iU w B' v l:=by
 obtain⟨o,c,rfl,hv⟩:=h.ex
 exact⟨⟨o,c,rfl,hv.dJ hB⟩,h.wf,h.len⟩
theorem iU.ge{w:World}{B:Nat}{v:Value}{l:List Nd}(h:iU w B v l){g:Nat}(hg:v.ownBlock=some g):B≤g∧g<w.heap.size:=by
 obtain⟨o,c,rfl,hv⟩:=h.ex
 exact hv.ge (by rw[oL o _ l.length];exact hg)
theorem iU.shape{w:World}{B:Nat}{v:Value}{l:List Nd}(h:iU w B v l):∃o n c,v=.slice o n c:=by
 obtain⟨o,c,rfl,hv⟩:=h.ex
 exact⟨_,_,_,rfl⟩
theorem iU.app{w w':World}{v v' u:Value}{B D:Nat}{l:List Nd}{xs:List (List Value)}(h:iU w B u l)(har:iO w v w' v')(hv:Vec w D 41 4 v xs):iU w' B u l:=by
 obtain⟨o,c,rfl,hx⟩:=h.ex
 exact⟨⟨o,c,rfl,har.vec hx (iT hx hv (by decide))⟩,h.wf,h.len⟩
theorem iU.ne{w:World}{B D:Nat}{v u:Value}{l:List Nd}{xs:List (List Value)}(h:iU w B u l)(hv:Vec w D 41 4 v xs){g:Nat}(hg:u.ownBlock=some g):v.ownBlock≠some g:=fun e=>by
 obtain⟨o,c,rfl,hx⟩:=h.ex
 rcases iT hx hv (by decide)with h|h
 ·rw[oL o _ l.length,hg]at h;cases h
 ·exact h (by rw[oL o _ l.length,hg,e])
structure LP(w:World)(B:Nat)(r:aR)(p:Pt):Prop where
 kind:r.kind=p.kind
 target:r.target=p.target
 text:r.text=p.text
 nodes:iU w B r.nodes p.nodes
 wkind:0≤p.kind∧p.kind≤255
 wtarget:-9223372036854775808≤p.target∧p.target≤9223372036854775807
 wtext:p.text.size≤140737488355328
theorem LP.at_{w:World}{B:Nat}{r:aR}{p:Pt}(h:LP w B r p):gM w r p:=⟨h.kind,h.target,h.text,h.nodes.nodes,h.wkind,h.wtarget,h.wtext⟩
theorem LP.ext{w w':World}{B:Nat}{r:aR}{p:Pt}(h:LP w B r p)(hE:Ext w w'):LP w' B r p:=⟨h.kind,h.target,h.text,h.nodes.ext hE,h.wkind,h.wtarget,h.wtext⟩
theorem LP.mono{w:World}{B B':Nat}{r:aR}{p:Pt}(h:LP w B r p)(hB:B'≤B):LP w B' r p:=⟨h.kind,h.target,h.text,h.nodes.mono hB,h.wkind,h.wtarget,h.wtext⟩
theorem LentPart_con(r:aR)(p:Pt)(w:World)(h:gM w r p)(hln:p.nodes.length≤1000000) :
  bV Tryz.prog 32 #[.agg r.cells.toArray] w (fun v w'=>∃r',v=.agg r'.cells.toArray∧LP w' w.heap.size r' p∧Ext w w'):=by
 obtain⟨kk,tt,xx,nn⟩:=r
 have e1:=h.kind
 have e2:=h.target
 have e3:=h.text
 have hN:=h.nodes
 simp only at e1 e2 e3 hN
 refine enter aB Tryz.func32 (aV rfl) rfl rfl rfl ?_
 refine aG.box [.int .u8 kk,.int .i64 tt,.string xx,nn] rfl fun b1 w1 n1=>?_
 refine aG.alloc _ [.int .u8 0,.int .i64 0,.string ⟨#[]⟩,.slice none 0 0] jI rfl fun b2 w2 n2=>?_
 have hE2:=n1.ext.trans n2.ext
 have hb1:w.heap.size≤b1:=by rw[n1.b_eq];exact Nat.le_refl _
 have hb2:w.heap.size≤b2:=by rw[n2.b_eq];exact n1.ext.sz
 have hl1:b1<w2.heap.size:=by have:=n1.blk.lt;have:=n2.ext.sz;omega
 have hl2:b2<w2.heap.size:=n2.blk.lt
 have hb12:b1≠b2:=by
  have:=n1.blk.lt
  have:=n2.b_eq
  omega
 have hB1:=n1.blk.ext n2.ext
 have hB2:=n2.blk
 refine Load.here (hB1.cells.one (k:=3) rfl) ?_
 refine aA.mk _ (qN nn p.nodes w2 (hN.ext hE2) hln) ?_
 rintro va w4 ⟨hva,hE24⟩
 have hE4:=hE2.trans hE24
 have hB14:=hB1.ext hE24
 have hB24:=hB2.ext hE24
 obtain⟨oa,na,ca,hvsh⟩:=hva.shape
 refine bA.store b1 3 _ [va] 41 rfl (by rw[hvsh];rfl) (by kernel_rfl) hB14 (by simp) (fun u hu=>by rw[List.mem_singleton.1 hu,hvsh];rfl) fun w5 hU1=>?_
 have hE5:Ext w w5:=hE4.upd hU1 hb1
 have hva5:=hva.ch (.bG (M:=fun k=>k=b1) hU1 rfl) (fun g hg e=>by have:=(hva.ge hg).1;omega)
 have hB15:bQ w5 b1 [.int .u8 kk,.int .i64 tt,.string xx,va] 41:=hU1.blk
 have hB25:=hU1.aF hB24 (Ne.symm hb12)
 refine Load.here (hB15.cells.all' rfl) ?_
 refine bA.store b2 0 _ [.int .u8 kk,.int .i64 tt,.string xx,va] 41 rfl rfl (by kernel_rfl) hB25 (by simp) (fun u hu=>by
  simp only[List.mem_cons,List.not_mem_nil,or_false]at hu
  rcases hu with rfl|rfl|rfl|rfl
  ·rfl
  ·rfl
  ·rfl
  ·rw[hvsh];rfl) fun w6 hU2=>?_
 have hE6:Ext w w6:=hE5.upd hU2 hb2
 have hva6:=hva5.ch (.bG (M:=fun k=>k=b2) hU2 rfl) (fun g hg e=>by have:=(hva5.ge hg).1;omega)
 have hB26:bQ w6 b2 [.int .u8 kk,.int .i64 tt,.string xx,va] 41:=hU2.blk
 refine Load.here (hB26.cells.all' rfl) ?_
 exact Exists.intro ⟨kk,tt,xx,va⟩ ⟨rfl,⟨e1,e2,e3,hva6.mono hE2.sz,h.wkind,h.wtarget,h.wtext⟩,hE6⟩
theorem KeptPart_con(r r':aR)(p:Pt)(B:Nat)(w:World)(h:LP w B r p)(h':gM w r' p)(hln:p.nodes.length≤1000000) :
  bV Tryz.prog 45 #[.agg r.cells.toArray,.agg r'.cells.toArray] w (fun v w'=>v=.bool true∧Ext w w'):=by
 refine enter aB Tryz.func45 (aV rfl) rfl rfl rfl ?_
 refine aG.box r.cells rfl fun b1 w1 n1=>?_
 refine aG.box r'.cells rfl fun b2 w2 n2=>?_
 have hE2:=n1.ext.trans n2.ext
 have hB1:=n1.blk.ext n2.ext
 have hB2:=n2.blk
 refine Load.here (hB1.cells.all' rfl) ?_
 refine Load.here (hB2.cells.all' rfl) ?_
 refine aA.mk _ (iZ (h.at_.ext hE2) (h'.ext hE2)) ?_
 rintro v w3 ⟨hv,hE3⟩
 rw[decide_eq_true rfl]at hv
 subst hv
 repeat (first|refine gA ?_|refine gB ?_|refine gC ?_)
 refine Load.here ((hB1.ext hE3).cells.one (k:=3) rfl) ?_
 repeat (first|refine gA ?_|refine gB ?_|refine gC ?_)
 refine Load.here ((hB2.ext hE3).cells.one (k:=3) rfl) ?_
 repeat (first|refine gA ?_|refine gB ?_|refine gC ?_)
 have hE03:=hE2.trans hE3
 refine aA.mk _ (qL r.nodes r'.nodes p.nodes B w3 (h.nodes.ext hE03) (h'.nodes.ext hE03) hln) ?_
 rintro v w4 ⟨rfl,hE4⟩
 exact And.intro rfl (hE03.trans hE4)
theorem OverPart_con(r:aR)(p:Pt)(B:Nat)(w:World)(h:LP w B r p)(hln:p.nodes.length≤1000000) :
  bV Tryz.prog 47 #[.agg r.cells.toArray] w (fun v w'=>Ch (fun k=>r.nodes.ownBlock=some k) w w'):=by
 refine enter aB Tryz.func47 (aV rfl) rfl rfl rfl ?_
 refine aG.box r.cells rfl fun b1 w1 n1=>?_
 refine Load.here (n1.blk.cells.one (k:=3) rfl) ?_
 refine aA.mk _ (vZ r.nodes p.nodes B w1 (h.nodes.ext n1.ext) hln) ?_
 rintro v w2 hC
 exact(Ch.aL n1.ext).trans hC
structure tZ(w:World)(B:Nat)(v:Value)(rs:List aR)(ps:List Pt):Prop where
 ex:∃o c,v=.slice o ps.length c∧Vec w B 41 4 (.slice o (ps.length+12) c) ((rs++lY 1 12).map aR.cells)
 len:rs.length=ps.length
 el:∀(i:Nat) (r:aR) (p:Pt),rs[i]? = some r→ps[i]? = some p→LP w B r p
 dif:∀(i j:Nat) (r q:aR),rs[i]? = some r→rs[j]? = some q→i≠j→∀g,r.nodes.ownBlock=some g→q.nodes.ownBlock≠some g
theorem tZ.ext{w w':World}{B:Nat}{v:Value}{rs:List aR}{ps:List Pt}(h:tZ w B v rs ps)(hE:Ext w w'):tZ w' B v rs ps:=by
 obtain⟨o,c,e,hv⟩:=h.ex
 exact⟨⟨o,c,e,hv.ext hE⟩,h.len,fun i r p h1 h2=>(h.el i r p h1 h2).ext hE,h.dif⟩
theorem tZ.parts{w:World}{B:Nat}{v:Value}{rs:List aR}{ps:List Pt}(h:tZ w B v rs ps)(hl:ps.length≤1000000):PartsAt w v ps:=by
 obtain⟨o,c,rfl,hv⟩:=h.ex
 refine⟨⟨rs,?_,h.len,fun i r p h1 h2=>(h.el i r p h1 h2).at_⟩,by omega⟩
 have:=rD (k:=ps.length) hv.sl (by simp[h.len])
 rwa [List.map_append,List.take_left' (by simp[h.len])]at this
theorem r_one{w:World}{B:Nat}{r:aR}{p:Pt}(h:LP w B r p):∀u∈r.cells,u.oneCell'=true:=h.at_.cells_one
theorem qO(v:Value)(ps:List Pt)(w:World)(hl:PartsAt w v ps)(hlen:ps.length≤1000)(hnl:∀p∈ps,p.nodes.length≤1000000) :
  bV Tryz.prog 9 #[v] w (fun v' w'=>∃rs,tZ w' w.heap.size v' rs ps∧Ext w w'):=by
 have hml:maxLen=9223372036854775807:=rfl
 have hl0:=hl
 obtain⟨o,c,rfl,h1,h2,h3,-⟩:=hl0.open_
 obtain⟨qs,hsl,hpts⟩:=hl.ex
 have hrl:qs.length=ps.length:=hpts.1
 have hrow:∀i (hi:i<ps.length),gM w (qs[i]'(by omega)) ps[i]:=fun i hi=>hpts.2 i _ _ (List.getElem?_eq_getElem (by omega)) (List.getElem?_eq_getElem hi)
 have hcel:∀w',Ext w w'→∀i (hi:i<ps.length),∃a,o=some a∧Cells w' (a.add (i*4)) (qs[i]'(by omega)).cells:=fun w' hE i hi=>(hsl.el _ _ _ rfl).ext hE i _ (by rw[List.getElem?_map,List.getElem?_eq_getElem (by omega)];rfl)
 refine enter aB Tryz.func9 (aV rfl) rfl rfl rfl ?_
 refine Ar.aM (ps.length+12) (by omega) (by omega) ?_
 refine aG.make0 fT w.heap.size (Nat.le_refl _) (by omega) (by omega) fun v0 w1 hv0 hE1 hf0=>?_
 refine aH.mk (X:=Nat × Value × List aR) (fun x=>[(0,.slice o ps.length c),(3,x.2.1),(4,.int .i64 x.1)])
  (fun x w'=>Ext w w'∧x.1≤ps.length∧Vec w' w.heap.size 41 4 x.2.1 (x.2.2.map aR.cells)∧x.2.2.length=x.1∧(∀(i:Nat) (r:aR) (p:Pt),x.2.2[i]? = some r→ps[i]? = some p→LP w' w.heap.size r p)∧
   (∀(i j:Nat) (r q:aR),x.2.2[i]? = some r→x.2.2[j]? = some q→i≠j→∀g,r.nodes.ownBlock=some g→q.nodes.ownBlock≠some g)) (fun x=>ps.length-x.1) (0,v0,[])
  ⟨hE1,Nat.zero_le _,hv0,rfl,(fun i r p h=>by cases h),fun i j r q h=>by cases h⟩ ⟨rfl,rfl,rfl,trivial⟩ ?_
 rintro⟨i,vo,rs⟩ w2 ⟨hE2,hi,hvo,hrs,hel,hdf⟩
 simp only at hi hvo hrs hel hdf ⊢
 refine Cond.dec (fun g1=>?_) (fun g1=>?_)
 ·have hil:i<ps.length:=by omega
  obtain⟨a,ha,hc⟩:=hcel w2 hE2 i hil
  have hp:=hrow i hil
  subst ha
  refine Idx.mk a rfl (by omega) (by omega) ?_
  refine Load.here (hc.all' rfl) ?_
  refine aA.mk _ (LentPart_con _ _ w2 (hp.ext hE2) (hnl _ (List.getElem_mem hil))) ?_
  rintro v w3 ⟨r,rfl,hr,hE3⟩
  refine aG.alloc _ [.int .u8 0,.int .i64 0,.string ⟨#[]⟩,.slice none 0 0] jI rfl fun b w4 n4=>?_
  refine bA.store b 0 _ r.cells 41 rfl rfl (by kernel_rfl) n4.blk (by simp[aR.cells]) (r_one hr) fun w5 hU=>?_
  have n5:=n4.upd hU
  have hB:bQ w5 b r.cells 41:=n5.blk
  have hr5:=hr.ext n5.ext
  obtain⟨on,nn,cn,hrn⟩:=hr5.nodes.shape
  refine Load.here (hB.cells.all' rfl) ?_
  refine aG.mk _ _ (pU r _ _ _ hrn _) ?_
  obtain⟨w6,hw6⟩:∃w',w'=w5.alloc (.cells r.cells.toArray 41):=⟨_,rfl⟩
  rw[←hw6]
  have n6:bO w5 w5.heap.size r.cells 41 w6:=⟨rfl,hw6⟩
  have hE36:=n5.ext.trans n6.ext
  have hE26:=hE3.trans hE36
  have hE6:=hE2.trans hE26
  have hvo6:=hvo.ext hE26
  refine bD.append fT w.heap.size _ [r.cells] hvo6 (aT n6) (fun y hy=>by
   rw[List.mem_singleton.1 hy]
   exact⟨rfl,r_one hr⟩) (by simp;omega) (by simp;omega) hE6.sz fun vo2 w7 hvo7 har7=>?_
  have hE7:Ext w w7:=Below.trans hE6 (har7.below hE6.sz fun b hb=>(hvo6.ge hb).1)
  have key:∀(r:aR) (p:Pt),LP w6 w.heap.size r p→LP w7 w.heap.size r p:=fun r p h=>⟨h.kind,h.target,h.text,h.nodes.app har7 hvo6,h.wkind,h.wtarget,h.wtext⟩
  have hr7:=key _ _ ((hr.ext hE36).mono (by exact hE2.sz))
  have one:∀(k:Nat) (q:aR),¬k<rs.length→[r][k-rs.length]? = some q→k=rs.length∧r=q:=fun k q hk hr=>by
   rcases Nat.eq_zero_or_pos (k-rs.length)with h|h
   ·rw[h]at hr;simp at hr;exact⟨by omega,hr⟩
   ·rw[List.getElem?_eq_none (by simp;omega)]at hr;cases hr
  have old:∀(k:Nat) (q:aR),rs[k]? = some q→∀g,q.nodes.ownBlock=some g→g<w2.heap.size:=fun k q hq g hg=>by
   have hk:=(List.getElem?_eq_some_iff.1 hq).1
   exact((hel k q _ hq (List.getElem?_eq_getElem (by omega))).nodes.ge hg).2
  refine Ar.aM (i+1) (by omega) (by omega) ?_
  refine⟨(i+1,vo2,rs++[r]),⟨hE7,by simp only;omega,by simpa using hvo7,by simp[hrs],fun k q p h1 h2=>?_,fun k j q s h1 h2 hkj g hg e=>?_⟩,by simp only;omega,rfl,rfl,rfl,trivial⟩
  ·simp only at h1
   rw[List.getElem?_append]at h1
   split at h1
   ·exact key _ _ ((hel k q p h1 h2).ext hE26)
   ·obtain⟨hk,rfl⟩:=one k q (by assumption) h1
    rw[hk,hrs,List.getElem?_eq_getElem hil]at h2
    cases h2
    exact hr7
  ·simp only at h1 h2
   rw[List.getElem?_append]at h1 h2
   split at h1<;>split at h2
   ·exact hdf k j q s h1 h2 hkj g hg e
   ·obtain⟨-,rfl⟩:=one j s (by assumption) h2
    have:=old k q h1 g hg
    have:=(hr.nodes.ge e).1
    omega
   ·obtain⟨-,rfl⟩:=one k q (by assumption) h1
    have:=old j s h2 g e
    have:=(hr.nodes.ge hg).1
    omega
   ·have:=(one k q (by assumption) h1).1
    have:=(one j s (by assumption) h2).1
    omega
 ·have hin:i=ps.length:=by omega
  subst hin
  refine aH.mk (X:=Nat × Value) (fun x=>[(0,.slice o ps.length c),(3,x.2),(6,.int .i64 x.1)])
   (fun x w'=>Ext w w'∧x.1≤12∧Vec w' w.heap.size 41 4 x.2 ((rs++lY 1 x.1).map aR.cells)∧(∀(i:Nat) (r:aR) (p:Pt),rs[i]? = some r→ps[i]? = some p→LP w' w.heap.size r p)) (fun x=>12-x.1) (0,vo)
   ⟨hE2,Nat.zero_le _,by simpa [lY] using hvo,hel⟩ ⟨rfl,rfl,rfl,trivial⟩ ?_
  rintro⟨k,vk⟩ w3 ⟨hE3,hk,hvk,hel3⟩
  simp only at hk hvk hel3 ⊢
  refine Cond.dec (fun g2=>?_) (fun g2=>?_)
  ·have hk12:k<12:=by omega
   refine aA.mk _ (fP 1 k w3 (by omega) (by omega)) ?_
   rintro v4 w4 ⟨rfl,hE4⟩
   refine aG.mk _ _ (pU (xK 1 k) _ _ _ rfl _) ?_
   obtain⟨w5,hw5⟩:∃w',w'=w4.alloc (.cells (xK 1 k).cells.toArray 41):=⟨_,rfl⟩
   rw[←hw5]
   have n5:bO w4 w4.heap.size (xK 1 k).cells 41 w5:=⟨rfl,hw5⟩
   have hE35:=hE4.trans n5.ext
   have hE5:=hE3.trans hE35
   have hvk5:=hvk.ext hE35
   refine bD.append fT w.heap.size _ [(xK 1 k).cells] hvk5 (aT n5) (fun y hy=>by
    rw[List.mem_singleton.1 hy]
    exact⟨rfl,qE _ _⟩) (by simp[pF];omega) (by simp[pF];omega) hE5.sz fun v6 w6 hv6 har6=>?_
   have hE6:Ext w w6:=Below.trans hE5 (har6.below hE5.sz fun b hb=>(hvk5.ge hb).1)
   refine Ar.aM (k+1) (by omega) (by omega) ?_
   refine⟨(k+1,v6),⟨hE6,by simp only;omega,?_,fun i r p h1 h2=>?_⟩,by simp only;omega,rfl,rfl,rfl,trivial⟩
   ·simp only
    rw[marksR_succ,←List.append_assoc,List.map_append]
    exact hv6
   ·have h:=(hel3 i r p h1 h2).ext hE35
    exact⟨h.kind,h.target,h.text,h.nodes.app har6 hvk5,h.wkind,h.wtarget,h.wtext⟩
  ·have hk12:k=12:=by omega
   subst hk12
   obtain⟨ov,cv,rfl,e1,e2,e3,e4,e5⟩:=hvk.shape
   simp only[List.length_map,List.length_append,pF,hrs]at hvk e1 ⊢
   refine Need.mk ⟨by omega,by omega,by omega,by omega,by simp⟩ ?_
   rw[mQ ov (ps.length+12) cv ps.length]
   exact Exists.intro rs ⟨⟨⟨ov,cv,rfl,hvk⟩,hrs,hel3,hdf⟩,hE3⟩
theorem tZ.get{w:World}{B:Nat}{o:Option Addr}{n c:Nat}{rs:List aR}{l:List Pt}(h:tZ w B (.slice o n c) rs l):n=l.length∧l.length+12≤c∧c≤9223372036854775807∧∃a,o=some a∧∀w',Ext w w'→∀i,i<l.length+12→Cells w' (a.add (i*4)) ((rs++lY 1 12)[i]?.getD (xK 0 0)).cells:=by
 have hml:maxLen=9223372036854775807:=rfl
 obtain⟨o',c',e,hv⟩:=h.ex
 simp only[Value.slice.injEq]at e
 obtain⟨rfl,rfl,rfl⟩:=e
 obtain⟨o2,c2,e,k1,k2,k3,k4,-⟩:=hv.shape
 simp only[Value.slice.injEq]at e
 obtain⟨rfl,e2,rfl⟩:=e
 rw[←e2]at k1
 refine⟨rfl,k1,by omega,?_⟩
 rcases o with _|a
 ·have:=k3 rfl;omega
 refine⟨a,rfl,fun w' hE i hi=>?_⟩
 have hi':i<(rs++lY 1 12).length:=by rw[List.length_append,pF,h.len];exact hi
 obtain⟨a',e,hc⟩:=k4.ext hE i ((rs++lY 1 12)[i]).cells (by rw[List.getElem?_map,List.getElem?_eq_getElem hi'];rfl)
 cases e
 rw[List.getElem?_eq_getElem hi']
 exact hc
theorem qM(v v':Value)(rs:List aR)(l:List Pt)(B:Nat)(w:World)(h:tZ w B v rs l)(hl:PartsAt w v' l)(hlen:l.length≤1000)(hnl:∀p∈l,p.nodes.length≤1000000):bV Tryz.prog 11 #[v,v'] w (fun r w'=>r=.bool true∧Ext w w'):=by
 have hml:maxLen=9223372036854775807:=rfl
 have hh:=h
 obtain⟨o,c,rfl,-⟩:=hh.ex
 obtain⟨-,k1,k2,a,rfl,hc⟩:=h.get
 have hl0:=hl
 obtain⟨o2,c2,rfl,h1,h2,h3,-⟩:=hl0.open_
 obtain⟨qs,hsl,hpts⟩:=hl.ex
 have hql:qs.length=l.length:=hpts.1
 have hrl:=h.len
 have hrow:∀i (hi:i<l.length),gM w (qs[i]'(by omega)) l[i]:=fun i hi=>hpts.2 i _ _ (List.getElem?_eq_getElem (by omega)) (List.getElem?_eq_getElem hi)
 have hcel:∀w',Ext w w'→∀i (hi:i<l.length),∃a,o2=some a∧Cells w' (a.add (i*4)) (qs[i]'(by omega)).cells:=fun w' hE i hi=>(hsl.el _ _ _ rfl).ext hE i _ (by rw[List.getElem?_map,List.getElem?_eq_getElem (by omega)];rfl)
 refine enter aB Tryz.func11 (aV rfl) rfl rfl rfl ?_
 refine Cond.dH (fun g1=>absurd rfl g1) (fun g1=>?_)
 refine Ar.aM (l.length+12) (by omega) (by omega) ?_
 refine Need.mk ⟨by omega,by omega,by omega,by omega,by simp⟩ ?_
 rw[sZ (some a) c (l.length+12)]
 refine aH.mk (X:=Nat) (fun i=>[(1,.slice o2 l.length c2),(5,.slice (some a) (l.length+12) c),(6,.int .i64 i)])
  (fun i w'=>Ext w w'∧i≤l.length+12) (fun i=>l.length+12-i) 0 ⟨Ext.refl _,Nat.zero_le _⟩ ⟨rfl,rfl,rfl,trivial⟩ ?_
 rintro i w1 ⟨hE1,hi⟩
 refine Cond.dec (fun g2=>?_) (fun g2=>?_)
 ·have hil:i<l.length+12:=by omega
  refine aQ.mk aB mixed (allT 0 13++[(13,false),(14,true),(15,true),(16,true),(17,true),(18,true),(19,true),(20,true),(21,true),(22,true),(23,true),(24,true),(25,true),(26,true),(27,true),(28,true),(29,true),(30,false),(31,false),(32,true),(33,true),(34,true)]) [] (by kernel_rfl) (fun w'=>Ext w1.drew w') (Ext.refl _) ?_
  have hE2:Ext w w1.drew:=hE1.trans (Ext.drew w1)
  refine aK.bB (fun g3=>?_) (fun g3=>?_)
  ·have hin:i<l.length:=by omega
   obtain⟨a2,ha2,-⟩:=hcel _ hE2 i hin
   subst ha2
   have hLP:=h.el i (rs[i]'(by omega)) l[i] (List.getElem?_eq_getElem (by omega)) (List.getElem?_eq_getElem hin)
   repeat (first|refine gA ?_|refine gB ?_|refine gC ?_)
   refine Idx.mk a rfl (by omega) (by omega) ?_
   repeat (first|refine gA ?_|refine gB ?_|refine gC ?_)
   refine Load.mk (.agg (rs[i]'(by omega)).cells.toArray) (fun w' hE=>by
    have:=hc w' (hE2.trans hE) i hil
    rw[List.getElem?_append_left (by omega),List.getElem?_eq_getElem (by omega)]at this
    exact this.all' rfl) ?_
   repeat (first|refine gA ?_|refine gB ?_|refine gC ?_)
   refine Idx.mk a2 rfl (by omega) (by omega) ?_
   repeat (first|refine gA ?_|refine gB ?_|refine gC ?_)
   refine Load.mk (.agg (qs[i]'(by omega)).cells.toArray) (fun w' hE=>by
    obtain⟨a3,e,hx⟩:=hcel w' (hE2.trans hE) i hin
    cases e
    exact hx.all' rfl) ?_
   repeat (first|refine gA ?_|refine gB ?_|refine gC ?_)
   refine aA.mk _ (KeptPart_con _ _ l[i] B w1.drew (hLP.ext hE2) ((hrow i hin).ext hE2) (hnl _ (List.getElem_mem hin))) ?_
   rintro v4 w4 ⟨rfl,hE4⟩
   repeat (first|refine gA ?_|refine gB ?_|refine gC ?_)
   refine Need.mk hE4 ?_
   repeat (first|refine gA ?_|refine gB ?_|refine gC ?_)
   refine aK.bB (fun g4=>absurd g4 (by omega)) (fun g4=>?_)
   repeat (first|refine gA ?_|refine gB ?_|refine gC ?_)
   refine Cond.no ?_
   refine Ar.aM (i+1) (by omega) (by omega) ?_
   exact⟨i+1,⟨hE2.trans hE4,by omega⟩,by omega,rfl,rfl,rfl,trivial⟩
  ·obtain⟨m,hm⟩:∃m,i=l.length+m:=⟨i-l.length,by omega⟩
   have hm12:m<12:=by omega
   have hci:∀w',Ext w w'→Cells w' (a.add (i*4)) (xK 1 m).cells:=fun w' hE=>by
    have:=hc w' hE i hil
    rw[List.getElem?_append_right (by omega),hm,hrl,Nat.add_sub_cancel_left,marksR_get _ _ _ hm12]at this
    rw[hm]
    exact this
   repeat (first|refine gA ?_|refine gB ?_|refine gC ?_)
   refine aK.bB (fun g4=>?_) (fun g4=>absurd (by omega) g4)
   repeat (first|refine gA ?_|refine gB ?_|refine gC ?_)
   refine Idx.mk a rfl (by omega) (by omega) ?_
   repeat (first|refine gA ?_|refine gB ?_|refine gC ?_)
   refine Load.mk (.agg (xK 1 m).cells.toArray) (fun w' hE=>(hci w' (hE2.trans hE)).all' rfl) ?_
   repeat (first|refine gA ?_|refine gB ?_|refine gC ?_)
   refine Ar.aM (m) (by omega) (by omega) ?_
   repeat (first|refine gA ?_|refine gB ?_|refine gC ?_)
   refine aA.mk _ (fP 1 m w1.drew (by omega) (by omega)) ?_
   rintro v4 w4 ⟨rfl,hE4⟩
   repeat (first|refine gA ?_|refine gB ?_|refine gC ?_)
   refine Need.mk hE4 ?_
   repeat (first|refine gA ?_|refine gB ?_|refine gC ?_)
   refine aA.mk _ (iZ (w:=w4) (qR w4 1 m (by omega) (by omega)) (qR w4 1 m (by omega) (by omega))) ?_
   rintro v5 w5 ⟨hv5,hE5⟩
   rw[decide_eq_true rfl]at hv5
   subst hv5
   repeat (first|refine gA ?_|refine gB ?_|refine gC ?_)
   refine Need.mk (hE4.trans hE5) ?_
   repeat (first|refine gA ?_|refine gB ?_|refine gC ?_)
   refine Cond.no ?_
   refine Ar.aM (i+1) (by omega) (by omega) ?_
   exact⟨i+1,⟨(hE2.trans hE4).trans hE5,by omega⟩,by omega,rfl,rfl,rfl,trivial⟩
 ·exact And.intro rfl hE1
def Mid(B B':Nat)(k:Nat):Prop:=B≤k∧k<B'
theorem wD(v:Value)(rs:List aR)(l:List Pt)(B B':Nat)(w:World)(h:tZ w B v rs l)(hlen:l.length≤1000)(hnl:∀p∈l,p.nodes.length≤1000000)(hB:∀g,v.ownBlock=some g→g<B')
  (hB':∀(i:Nat) (r:aR),rs[i]? = some r→∀g,r.nodes.ownBlock=some g→g<B'):bV Tryz.prog 12 #[v] w (fun r w'=>Ch (Mid B B') w w'):=by
 have hml:maxLen=9223372036854775807:=rfl
 have hh:=h
 obtain⟨o,c,rfl,hv⟩:=hh.ex
 obtain⟨-,k1,k2,a,rfl,-⟩:=h.get
 have hrl:=h.len
 have hvl:=hv.sl
 refine enter aB Tryz.func12 (aV rfl) rfl rfl rfl ?_
 refine aH.mk (X:=Nat) (fun i=>[(0,.slice (some a) l.length c),(2,.int .i64 i)])
  (fun i w'=>Ch (Mid B B') w w'∧i≤l.length∧Vec w' B 41 4 (.slice (some a) (l.length+12) c) ((rs++lY 1 12).map aR.cells)∧(∀(j:Nat) (r:aR) (p:Pt),i≤j→rs[j]? = some r→l[j]? = some p→LP w' B r p)) (fun i=>l.length-i) 0
  ⟨Ch.refl _ _,Nat.zero_le _,hv,fun j r p _ h1 h2=>h.el j r p h1 h2⟩ ⟨rfl,rfl,trivial⟩ ?_
 rintro i w1 ⟨hC1,hi,hv1,hel1⟩
 refine Cond.dec (fun g2=>?_) (fun g2=>?_)
 ·have hil:i<l.length:=by omega
  have hri:rs[i]? = some (rs[i]'(by omega)):=List.getElem?_eq_getElem (by omega)
  have hLP:=hel1 i _ l[i] (Nat.le_refl _) hri (List.getElem?_eq_getElem hil)
  refine Idx.mk a rfl (by omega) (by omega) ?_
  obtain⟨a',e,hcx⟩:=hv1.sl.el _ _ _ rfl i (rs[i]'(by omega)).cells (by rw[List.getElem?_map,List.getElem?_append_left (by omega),hri];rfl)
  cases e
  refine Load.here (hcx.all' rfl) ?_
  refine aA.mk _ (OverPart_con _ l[i] B w1 hLP (hnl _ (List.getElem_mem hil))) ?_
  rintro v2 w2 hC2
  refine Ar.aM (i+1) (by omega) (by omega) ?_
  refine⟨i+1,⟨hC1.trans (hC2.mono fun k hk=>⟨(hLP.nodes.ge hk).1,hB' i _ hri k hk⟩),by omega,hC2.vec hv1 (fun g hg e=>?_),fun j r p hj h1 h2=>?_⟩,by omega,rfl,rfl,trivial⟩
  ·exact hLP.nodes.ne hv1 e hg
  ·have hx:=hel1 j r p (by omega) h1 h2
   exact⟨hx.kind,hx.target,hx.text,hx.nodes.ch hC2 (fun g hg e=>h.dif i j _ r hri h1 (by omega) g e hg),hx.wkind,hx.wtarget,hx.wtext⟩
 ·refine Ar.aM (l.length+12) (by omega) (by omega) ?_
  refine Need.mk ⟨by omega,by omega,by omega,by omega,by simp⟩ ?_
  rw[sZ (some a) c (l.length+12)]
  refine aH.mk (X:=Nat × List (List Value)) (fun x=>[(3,.slice (some a) (l.length+12) c),(4,.int .i64 x.1)])
   (fun x w'=>Ch (Mid B B') w w'∧x.1≤l.length+12∧x.2.length=l.length+12∧Vec w' B 41 4 (.slice (some a) (l.length+12) c) x.2) (fun x=>l.length+12-x.1) (0,_) ⟨hC1,Nat.zero_le _,by simp[pF,hrl],hv1⟩ ⟨rfl,rfl,trivial⟩ ?_
  rintro⟨k,xs⟩ w3 ⟨hC3,hk,hxl,hv3⟩
  simp only at hk hxl hv3 ⊢
  refine Cond.dec (fun g3=>?_) (fun g3=>?_)
  ·have hkl:k<l.length+12:=by omega
   refine aA.mk _ (fP 2 k w3 (by omega) (by omega)) ?_
   rintro v4 w4 ⟨rfl,hE4⟩
   refine Idx.mk a rfl (by omega) (by omega) ?_
   refine bA.kR (xK 2 k).cells (by kernel_rfl) (hv3.ext hE4) rfl (by omega) rfl rfl (qE _ _) fun w5 g cs hU hBg hown hv5=>?_
   refine Ar.aM (k+1) (by omega) (by omega) ?_
   refine⟨(k+1,_),⟨(hC3.trans (.aL hE4)).trans (.bG hU ⟨hBg,hB g hown⟩),by simp only;omega,by rw[List.length_set];exact hxl,hv5⟩,by simp only;omega,rfl,rfl,trivial⟩
  ·exact hC3
def qU(C:Nat→Nat→List Value)(k n:Nat):List (List Value):=(List.range n).map (C k)
section
variable {C:Nat→Nat→List Value}
theorem dN(k n:Nat):(qU C k n).length=n:=by simp[qU]
theorem jE(k:Nat){n i:Nat}(h:i<n):(qU C k n)[i]? = some (C k i):=by simp[qU,h]
theorem mkc_succ(k n:Nat):qU C k (n+1)=qU C k n++[C k n]:=by simp[qU,List.range_succ]
theorem yD(k:Nat){n m:Nat}(h:m≤n):(qU C k n).take m=qU C k m:=by
 unfold qU
 rw[←List.map_take,List.take_range,Nat.min_eq_left h]
theorem mkc_ext(k n:Nat){xs:List (List Value)}(hl:xs.length=n)(h:∀j,j<n→xs[j]? = some (C k j)):xs=qU C k n:=by
 apply List.ext_getElem?
 intro j
 rcases Nat.lt_or_ge j n with hj|hj
 ·rw[h j hj,jE k hj]
 ·rw[List.getElem?_eq_none (by omega),List.getElem?_eq_none (by rw[dN];exact hj)]
end
def gK(own:Nat→Nat)(n k:Nat):Nat→Nat:=fun b=>if b<n then own b else k
structure Held(own:Nat→Nat)(M:Nat→Prop)(w:World)(D e sz q:Nat)(u:Value)(us:List (List Value)):Prop where
 vec:Vec w D e sz u us
 tag:∀g,u.ownBlock=some g→own g=q∧M g
theorem Held.ext{own:Nat→Nat}{M:Nat→Prop}{w w':World}{D e sz q:Nat}{u:Value}{us:List (List Value)}(h:Held own M w D e sz q u us)(hE:Ext w w'):Held own M w' D e sz q u us:=⟨h.vec.ext hE,h.tag⟩
theorem Held.upd{own:Nat→Nat}{M:Nat→Prop}{w w':World}{D e sz q b:Nat}{t:TypeId}{cs:List Value}{u:Value}{us:List (List Value)}(h:Held own M w D e sz q u us)(hU:mK w b cs t w')(hb:u.ownBlock≠some b):Held own M w' D e sz q u us:=⟨h.vec.upd hU hb,h.tag⟩
theorem Held.gK{own:Nat→Nat}{M:Nat→Prop}{w:World}{D e sz q:Nat}{u:Value}{us:List (List Value)}(h:Held own M w D e sz q u us)(k:Nat){n:Nat}(hn:w.heap.size≤n):Held (gK own n k) M w D e sz q u us:=
 ⟨h.vec,fun g hg=>⟨by have:=(h.vec.ge hg).2;unfold YtelffdgcikceaaaGreatDoor.gK;rw[if_pos (by omega)];exact(h.tag g hg).1,(h.tag g hg).2⟩⟩
theorem Held.ne{own:Nat→Nat}{M:Nat→Prop}{w:World}{D D' e e' sz sz' q k:Nat}{u v:Value}{us xs:List (List Value)}(h:Held own M w D e sz q u us)(hv:Held own M w D' e' sz' k v xs)(hqk:q≠k):u.ownBlock=none∨u.ownBlock≠v.ownBlock:=by
 rcases hg:u.ownBlock with _|g
 ·exact .inl rfl
 ·right
  intro e
  have h1:=(h.tag g hg).1
  have h2:=(hv.tag g e.symm).1
  omega
theorem Vec.cap_same{w:World}{D D' e e' sz:Nat}{g n m c c':Nat}{xs ys:List (List Value)}(h:Vec w D e sz (.slice (some ⟨g,0,none⟩) n c) xs)(h':Vec w D' e' sz (.slice (some ⟨g,0,none⟩) m c') ys)(hp:0<sz):c=c':=by
 rcases h.own.2 with ⟨h1,-⟩|⟨g1,c1,cur1,e1,-,hh1,-,-,hs1,-⟩
 ·cases h1
 rcases h'.own.2 with ⟨h1,-⟩|⟨g2,c2,cur2,e2,-,hh2,-,-,hs2,-⟩
 ·cases h1
 simp only[Value.slice.injEq,Option.some.injEq,Addr.mk.injEq]at e1 e2
 obtain⟨⟨rfl,-,-⟩,-,rfl⟩:=e1
 obtain⟨⟨rfl,-,-⟩,-,rfl⟩:=e2
 rw[hh1]at hh2
 cases hh2
 rw[hs1]at hs2
 exact Nat.eq_of_mul_eq_mul_right hp hs2
theorem Held.keep{own:Nat→Nat}{M:Nat→Prop}{w w':World}{D e sz q k:Nat}{u v v':Value}{us xs ys:List (List Value)}(h:Held own M w D e sz q u us)(hv:Held own M w D e sz k v xs)(hv':Vec w' D e sz v' (xs++ys))(hp:0<sz)
  (ha:App2 w v xs.length ys.length w' v') (hq:q=k→us.length≤xs.length∧us=xs.take us.length):Held (YtelffdgcikceaaaGreatDoor.gK own w.heap.size k) M w' D e sz q u us:=by
 refine⟨?_,fun g hg=>⟨by have:=(h.vec.ge hg).2;unfold YtelffdgcikceaaaGreatDoor.gK;rw[if_pos (by omega)];exact(h.tag g hg).1,(h.tag g hg).2⟩⟩
 by_cases hne:u.ownBlock=none∨u.ownBlock≠v.ownBlock
 ·exact ha.rel.vec h.vec hne
 have hne1:u.ownBlock≠none:=fun e=>hne (.inl e)
 have hne2:u.ownBlock=v.ownBlock:=by
  by_cases e:u.ownBlock=v.ownBlock
  ·exact e
  ·exact absurd (.inr e) hne
 have hqk:q=k:=by
  by_cases e:q=k
  ·exact e
  ·exact absurd (h.ne hv e) hne
 obtain⟨hl,hu⟩:=hq hqk
 rcases ha.ex with ⟨h1,-⟩|⟨g,c,rfl,rfl,h3⟩
 ·exact⟨h.vec.own.kept h1 (.inr (by simpa using hne1)),h.vec.len⟩
 ·have hw:=h.vec
  rcases hw.own.2 with ⟨h1,-⟩|⟨g1,c1,cur1,e1,-⟩
  ·rw[h1]at hne1;exact absurd rfl hne1
  subst e1
  have eg:some g1=some g:=hne2
  cases eg
  have hc:=Vec.cap_same hw hv.vec hp
  subst hc
  have:=hv'.front (k:=us.length) (by rw[List.length_append];omega) (by simp)
  rwa [List.take_append_of_le_length hl,←hu]at this
theorem Held.new{own:Nat→Nat}{M:Nat→Prop}{w w':World}{D e sz k:Nat}{v v':Value}{xs ys:List (List Value)}(hv:Held own M w D e sz k v xs)(hv':Vec w' D e sz v' (xs++ys))
  (ha:App2 w v xs.length ys.length w' v') (hM:∀g,w.heap.size≤g→M g):Held (YtelffdgcikceaaaGreatDoor.gK own w.heap.size k) M w' D e sz k v' (xs++ys):=by
 refine⟨hv',fun g hg=>?_⟩
 rcases ha.rel.fresh g hg with h|h
 ·have:=(hv.vec.ge h).2
  unfold YtelffdgcikceaaaGreatDoor.gK
  rw[if_pos this]
  exact hv.tag g h
 ·unfold YtelffdgcikceaaaGreatDoor.gK
  rw[if_neg (by omega)]
  exact⟨rfl,hM g h⟩
theorem Ch.strip{M:Nat→Prop}{w w':World}(h:Ch (fun k=>w.heap.size≤k∨M k) w w'):Ch M w w':=⟨h.os,h.tape,h.output,h.size,fun k hk hm=>h.block k hk (fun hh=>by rcases hh with hh|hh;omega;exact hm hh)⟩
def ApartL(vs:List Value):Prop:=∀(i j:Nat) (u v:Value),vs[i]? = some u→vs[j]? = some v→i≠j→∀g,u.ownBlock=some g→v.ownBlock≠some g
theorem ApartL.own{vs:List Value}(h:ApartL vs):∃own:Nat→Nat,∀(q:Nat) (v:Value),vs[q]? = some v→∀g,v.ownBlock=some g→own g=q:=by
 classical
 refine⟨fun g=>if hx:∃(q:Nat) (v:Value),vs[q]? = some v∧v.ownBlock=some g then Classical.choose hx else 0,fun q v hq g hg=>?_⟩
 have hx:∃(q:Nat) (v:Value),vs[q]? = some v∧v.ownBlock=some g:=⟨q,v,hq,hg⟩
 simp only
 rw[dif_pos hx]
 obtain⟨v',h1,h2⟩:=Classical.choose_spec hx
 by_cases e:Classical.choose hx=q
 ·exact e
 ·exact absurd hg (h _ q v' v h1 hq e g h2)
def gP(vs:List Value):List (List Value):=vs.map fun v=>[v]
theorem bK(vs:List Value):(gP vs).length=vs.length:=by simp[gP]
theorem dB{vs:List Value}{k:Nat}{v:Value}(h:vs[k]? = some v):(gP vs)[k]? = some [v]:=by simp[gP,h]
theorem rQ(vs:List Value)(k:Nat)(v:Value):(gP vs).set k [v]=gP (vs.set k v):=by simp[gP,List.map_set]
def prog(n:Nat→Nat)(k i q:Nat):Nat:=if q<k then n q else if q=k then i else 0
end Go.Proofs.YtelffdgcikceaaaGreatDoor
end
section
namespace Go.Proofs.YtelffdgcikceaaaGreatDoor
open Go.V
open Go.RowKit (Below)
theorem elem44:lG Tryz.prog 44 31 1 24:=by
 obtain⟨i,h1,h2,h3,h4⟩:=nW (t:=31) (z:=.slice none 0 0) (m:=1) (b:=24) (by kernel_rfl)
 exact⟨Tryz.underlying44,⟨i,_,h1,h2,h3,h4,rfl⟩,by decide⟩
theorem zc31:∀i z,Tryz.prog.info? 31=some i→i.zero=some z→z.cells=[Value.slice none 0 0].toArray:=fun i z hi hz=>by
 have h:(Tryz.prog.info? 31).bind (·.zero)=some (.slice none 0 0):=by kernel_rfl
 rw[hi]at h
 have h':i.zero=some (.slice none 0 0):=h
 rw[hz]at h'
 cases h'
 rfl
theorem zc50:∀i z,Tryz.prog.info? 50=some i→i.zero=some z→z.cells=([.int .u8 0,.string ⟨#[]⟩,.string ⟨#[]⟩,.int .i64 0]:List Value).toArray:=fun i z hi hz=>by
 have h:(Tryz.prog.info? 50).bind (·.zero)=some (.agg ([.int .u8 0,.string ⟨#[]⟩,.string ⟨#[]⟩,.int .i64 0]:List Value).toArray):=by kernel_rfl
 rw[hi]at h
 have h':i.zero=some (.agg ([.int .u8 0,.string ⟨#[]⟩,.string ⟨#[]⟩,.int .i64 0]:List Value).toArray):=h
 rw[hz]at h'
 cases h'
 rfl
set_option maxHeartbeats 6400000 in
theorem flat96_con(o:Option Addr)(c:Nat)(vs:List Value)(n:Nat→Nat)(D Dl:Nat)(w:World)(hls:Vec w Dl 31 1 (.slice o vs.length c) (gP vs))
  (hvs:∀(q:Nat) (v:Value),vs[q]? = some v→∃xs,Vec w D 50 4 v xs∧xs.length=n q) (hap:ApartL vs) (hlen:vs.length≤1000) (hn:∀q,n q≤1000000) (hD:D≤w.heap.size) :
  bV Tryz.prog 96 #[.slice o vs.length c] w (fun r w'=>r=.bool true∧Ch (fun k=>∃(q:Nat) (v:Value),vs[q]? = some v∧v.ownBlock=some k) w w'):=by
 have hml:maxLen=9223372036854775807:=rfl
 obtain⟨own,hown⟩:=hap.own
 obtain⟨C,hC⟩:∃C:Nat→Nat→List Value,C=fun k i=>(mkN k i).cells:=⟨_,rfl⟩
 have hCl:∀k i,C k i=(mkN k i).cells:=fun k i=>by rw[hC]
 have hCone:∀k m,∀y∈qU C k m,y.length=4∧∀u∈y,u.oneCell'=true:=fun k m y hy=>by
  obtain⟨i,-,rfl⟩:=List.mem_map.1 hy
  rw[hCl]
  exact⟨rfl,(Nd.cells_one _)⟩
 obtain⟨M,hM⟩:∃M:Nat→Prop,M=fun k=>w.heap.size≤k∨∃(q:Nat) (v:Value),vs[q]? = some v∧v.ownBlock=some k:=⟨_,rfl⟩
 have hMnew:∀g,w.heap.size≤g→M g:=fun g hg=>by rw[hM];exact .inl hg
 have hMown:∀(q:Nat) (v:Value) g,vs[q]? = some v→v.ownBlock=some g→M g:=fun q v g h1 h2=>by rw[hM];exact .inr ⟨q,v,h1,h2⟩
 have hfin:∀w',Ch M w w'→Ch (fun k=>∃(q:Nat) (v:Value),vs[q]? = some v∧v.ownBlock=some k) w w':=fun w' h=>by
  rw[hM]at h
  exact h.strip
 have hlsC:∀w',Ch M w w'→Vec w' Dl 31 1 (.slice o vs.length c) (gP vs):=fun w' h=>h.vec hls fun g hg hm=>by
  rw[hM]at hm
  rcases hm with hm|⟨q,v,h1,h2⟩
  ·have:=(hls.ge hg).2;omega
  ·obtain⟨xs,hx,-⟩:=hvs q v h1
   rcases iT hx hls (by decide)with h|h
   ·rw[h]at h2;cases h2
   ·exact h (by rw[h2,hg])
 have hlsR:∀w',Ch M w w'→∀(k:Nat) (v:Value),vs[k]? = some v→∃a,o=some a∧Cells w' (a.add (k*1)) [v]:=fun w' h k v hv=>(hlsC w' h).sl.el _ _ _ rfl k _ (dB hv)
 have hH0:∀(q:Nat) (v:Value),vs[q]? = some v→∃xs,Held own M w D 50 4 q v xs∧xs.length=n q:=fun q v h=>by
  obtain⟨xs,h1,h2⟩:=hvs q v h
  exact⟨xs,⟨h1,fun g hg=>⟨hown q v h g hg,hMown q v g h hg⟩⟩,h2⟩
 refine enter aB Tryz.func96 (aV rfl) rfl rfl rfl ?_
 refine aH.mk (X:=Nat) (fun k=>[(0,.slice o vs.length c),(3,.int .i64 k)])
  (fun k w'=>Ch M w w'∧k≤vs.length∧∀(q:Nat) (v:Value),vs[q]? = some v→∃xs,Held own M w' D 50 4 q v xs∧xs.length=n q∧∀j,j<prog n k 0 q→xs[j]? = some (C q j)) (fun k=>vs.length-k) 0
  ⟨Ch.refl _ _,Nat.zero_le _,fun q v h=>by
   obtain⟨xs,h1,h2⟩:=hH0 q v h
   refine⟨xs,h1,h2,fun j hj=>?_⟩
   simp[prog]at hj⟩ ⟨rfl,rfl,trivial⟩ ?_
 rintro k w1 ⟨hC1,hk,hR1⟩
 refine Cond.dec (fun g1=>?_) (fun g1=>?_)
 ·have hkl:k<vs.length:=by omega
  obtain⟨v,hv⟩:∃v,vs[k]? = some v:=⟨_,List.getElem?_eq_getElem hkl⟩
  refine aH.mk (X:=Nat) (fun i=>[(0,.slice o vs.length c),(3,.int .i64 k),(4,.int .i64 i)])
   (fun i w'=>Ch M w w'∧i≤n k∧∀(q:Nat) (v:Value),vs[q]? = some v→∃xs,Held own M w' D 50 4 q v xs∧xs.length=n q∧∀j,j<prog n k i q→xs[j]? = some (C q j)) (fun i=>n k-i) 0
   ⟨hC1,Nat.zero_le _,hR1⟩ ⟨rfl,rfl,rfl,trivial⟩ ?_
  rintro i w2 ⟨hC2,hi,hR2⟩
  obtain⟨a,ha,hca⟩:=hlsR w2 hC2 k v hv
  subst ha
  obtain⟨xs,hH,hxl,hxj⟩:=hR2 k v hv
  obtain⟨ov,cv,hve,v1,v2,v3,-,-⟩:=hH.vec.shape
  rw[hxl]at hve v1
  subst hve
  refine Idx.mk a rfl (by omega) (by omega) ?_
  refine Load.here (hca.one (k:=0) rfl) ?_
  have hnk:=hn k
  refine Cond.dec (fun g2=>?_) (fun g2=>?_)
  ·have hil:i<n k:=by omega
   obtain⟨av,hav⟩:∃av,ov=some av:=by
    cases ov with
    | none=>have:=v3 rfl;omega
    | some av=>exact⟨av,rfl⟩
   subst hav
   refine aQ.mk aB mixed (allT 0 7++[(7,false),(8,true),(9,false)]) [9] (by kernel_rfl) (fun w'=>Ext w2.drew w') (Ext.refl _) ?_
   refine Idx.mk a rfl (by omega) (by omega) ?_
   refine Load.mk (.slice (some av) (n k) cv) (fun w' hE=>by
    obtain⟨a',e,hx⟩:=hlsR w' (hC2.trans (.aL ((Ext.drew w2).trans hE))) k _ hv
    cases e
    exact hx.one (k:=0) rfl) ?_
   refine aA.mk _ (fO k i _ (by omega) (by omega)) ?_
   rintro v4 w4 ⟨rfl,hE4⟩
   refine Need.mk hE4 ?_
   refine Idx.mk av rfl (by omega) (by omega) ?_
   have hE24:=(Ext.drew w2).trans hE4
   refine bA.kR (k:=i) (mkN k i).cells (by kernel_rfl) (hH.vec.ext hE24) rfl (by omega) rfl rfl (Nd.cells_one _) fun w5 g cs hU hBg howng hv5=>?_
   refine Ar.aM (i+1) (by omega) (by omega) ?_
   refine⟨i+1,⟨(hC2.trans (.aL hE24)).trans (.bG hU (hMown k _ g hv howng)),by omega,fun q u hu=>?_⟩,by omega,rfl,rfl,rfl,trivial⟩
   by_cases hq:q=k
   ·subst hq
    rw[hv]at hu
    cases hu
    refine⟨_,⟨hv5,hH.tag⟩,by rw[List.length_set];exact hxl,fun j hj=>?_⟩
    simp only[prog,Nat.lt_irrefl,if_false,if_true]at hj
    rw[List.getElem?_set]
    by_cases hij:i=j
    ·subst hij
     rw[if_pos rfl,if_pos (by omega),hCl]
    ·rw[if_neg hij]
     exact hxj j (by simp only[prog,Nat.lt_irrefl,if_false,if_true];omega)
   ·obtain⟨ys,h1,h2,h3⟩:=hR2 q u hu
    refine⟨ys,(h1.ext hE24).upd hU (fun e=>?_),h2,fun j hj=>h3 j (by simp only[prog,hq,if_false]at hj ⊢;exact hj)⟩
    have e1:=(h1.tag g e).1
    have e2:=(hH.tag g howng).1
    omega
  ·have hin:i=n k:=by omega
   refine Ar.aM (k+1) (by omega) (by omega) ?_
   refine⟨k+1,⟨hC2,by omega,fun q u hu=>?_⟩,by omega,rfl,rfl,trivial⟩
   obtain⟨ys,h1,h2,h3⟩:=hR2 q u hu
   refine⟨ys,h1,h2,fun j hj=>h3 j ?_⟩
   by_cases hq:q<k
   ·simp only[prog,hq,if_true]at hj ⊢
    rw[if_pos (by omega)]at hj
    exact hj
   ·by_cases hq2:q=k
    ·subst hq2
     simp only[prog,Nat.lt_irrefl,if_false,if_true,Nat.lt_succ_self]at hj ⊢
     omega
    ·simp only[prog]at hj
     rw[if_neg (by omega)]at hj
     split at hj<;>omega
 have hRows:∀(q:Nat) (v:Value),vs[q]? = some v→Held own M w1 D 50 4 q v (qU C q (n q)):=fun q v h=>by
  obtain⟨xs,h1,h2,h3⟩:=hR1 q v h
  have hq:q<vs.length:=(List.getElem?_eq_some_iff.1 h).1
  rw[mkc_ext q (n q) h2 (fun j hj=>h3 j (by simp only[prog];rw[if_pos (by omega)];exact hj))]at h1
  exact h1
 refine aG.makeN elem44 w.heap.size hC1.size (by omega) (by omega) [.slice none 0 0] zc31 fun gsv w2 hgs hE2 hgf=>?_
 obtain⟨og,cg,hge,gg1,gg2,gg3,-,-⟩:=hgs.shape
 rw[List.length_replicate]at hge gg1
 subst hge
 have hG0:gP (List.replicate vs.length (.slice none 0 0))=List.replicate vs.length [.slice none 0 0]:=by simp[gP]
 rw[←hG0]at hgs
 refine aH.mk (X:=Nat × List Value × (Nat→Nat)) (fun x=>[(0,.slice o vs.length c),(5,.slice og vs.length cg),(6,.int .i64 x.1)])
  (fun x w'=>Ch M w w'∧x.1≤vs.length∧x.2.1.length=vs.length∧Vec w' w.heap.size 31 1 (.slice og vs.length cg) (gP x.2.1)∧(∀(q:Nat) (v:Value),vs[q]? = some v→Held x.2.2 M w' D 50 4 q v (qU C q (n q)))∧
   (∀(q:Nat) (v:Value),q<x.1→x.2.1[q]? = some v→Held x.2.2 M w' D 50 4 q v (qU C q (n q+64)))) (fun x=>vs.length-x.1) (0,List.replicate vs.length (.slice none 0 0),own)
  ⟨hC1.trans (.aL hE2),Nat.zero_le _,by simp,hgs,(fun q v h=>(hRows q v h).ext hE2),fun q v h=>by simp at h⟩ ⟨rfl,rfl,rfl,trivial⟩ ?_
 rintro⟨k,G,own3⟩ w3 ⟨hC3,hk3,hGl,hgs3,hRo3,hGr3⟩
 simp only at hk3 hGl hgs3 hRo3 hGr3 ⊢
 refine Cond.dec (fun g3=>?_) (fun g3=>?_)
 ·have hkl:k<vs.length:=by omega
  obtain⟨v,hv⟩:∃v,vs[k]? = some v:=⟨_,List.getElem?_eq_getElem hkl⟩
  obtain⟨a,ha,hca⟩:=hlsR w3 hC3 k v hv
  subst ha
  have hnk:=hn k
  refine Idx.mk a rfl (by omega) (by omega) ?_
  refine Load.here (hca.one (k:=0) rfl) ?_
  refine aH.mk (X:=Nat × Value × (Nat→Nat)) (fun x=>[(0,.slice (some a) vs.length c),(5,.slice og vs.length cg),(6,.int .i64 k),(7,x.2.1),(8,.int .i64 x.1)])
   (fun x w'=>Ch M w w'∧x.1≤64∧Vec w' w.heap.size 31 1 (.slice og vs.length cg) (gP G)∧(∀(q:Nat) (v:Value),vs[q]? = some v→Held x.2.2 M w' D 50 4 q v (qU C q (n q)))∧
    (∀(q:Nat) (v:Value),q<k→G[q]? = some v→Held x.2.2 M w' D 50 4 q v (qU C q (n q+64)))∧Held x.2.2 M w' D 50 4 k x.2.1 (qU C k (n k+x.1))) (fun x=>64-x.1) (0,v,own3)
   ⟨hC3,Nat.zero_le _,hgs3,hRo3,hGr3,hRo3 k v hv⟩ ⟨rfl,rfl,rfl,rfl,rfl,trivial⟩ ?_
  rintro⟨i,gv,own4⟩ w4 ⟨hC4,hi4,hgs4,hRo4,hGr4,hH4⟩
  simp only at hi4 hgs4 hRo4 hGr4 hH4 ⊢
  refine Cond.dec (fun g4=>?_) (fun g4=>?_)
  ·have hi64:i<64:=by omega
   obtain⟨a',e,hca4⟩:=hlsR w4 hC4 k v hv
   cases e
   obtain⟨ov,cv,hve,-,-,-,-,-⟩:=(hRo4 k v hv).vec.shape
   rw[dN]at hve
   subst hve
   refine Idx.mk a rfl (by omega) (by omega) ?_
   refine Load.here (hca4.one (k:=0) rfl) ?_
   refine Ar.aM (n k+i) (by omega) (by omega) ?_
   refine aA.mk _ (fO k (n k+i) _ (by omega) (by omega)) ?_
   rintro v5 w5 ⟨rfl,hE5⟩
   refine aG.mk _ _ (aY _ _ _ _ _) ?_
   obtain⟨w6,hw6⟩:∃w',w'=w5.alloc (.cells (mkN k (n k+i)).cells.toArray 50):=⟨_,rfl⟩
   have n6:bO w5 w5.heap.size (mkN k (n k+i)).cells 50 w6:=⟨rfl,hw6⟩
   have hE46:=hE5.trans n6.ext
   refine(show _ from ?_:bD _ _ w6 _) |> fun h=>by rw[hw6]at h;exact h
   have hH6:=hH4.ext hE46
   refine bD.append2 bI D (qU C k (n k+i)) [(mkN k (n k+i)).cells] hH6.vec (aT n6) (fun y hy=>by
    rw[List.mem_singleton.1 hy]
    exact⟨rfl,(Nd.cells_one _)⟩) (by rw[dN,List.length_singleton];omega) (by rw[dN,List.length_singleton];omega) (Nat.le_trans hD (Nat.le_trans hC4.size hE46.sz)) (by simp) fun gv7 w7 hv7 ha7=>?_
   have hnew:=hH6.new hv7 ha7 (fun g hg=>hMnew g (Nat.le_trans (Nat.le_trans hC4.size hE46.sz) hg))
   have hmk:qU C k (n k+(i+1))=qU C k (n k+i)++[(mkN k (n k+i)).cells]:=by rw[←Nat.add_assoc,mkc_succ,hCl]
   have hC6:=hC4.trans (.aL hE46)
   have hC7:=hC6.trans (.cO ha7.rel (fun b hb=>(hH6.tag b hb).2))
   have hgs6:=hgs4.ext hE46
   refine Ar.aM (i+1) (by omega) (by omega) ?_
   refine⟨(i+1,gv7,gK own4 w6.heap.size k),⟨hC7,by simp only;omega,?_,fun q u hu=>?_,fun q u hq hu=>?_,?_⟩,by simp only;omega,rfl,rfl,rfl,rfl,rfl,trivial⟩
   ·refine ha7.rel.vec hgs6 ?_
    rcases iT hgs6 hH6.vec (by decide)with h|h
    ·exact .inl h
    ·exact .inr h
   ·refine((hRo4 q u hu).ext hE46).keep hH6 hv7 (by decide) ha7 (fun e=>?_)
    subst e
    exact⟨by rw[dN,dN];omega,by rw[dN,yD q (Nat.le_add_right _ _)]⟩
   ·exact((hGr4 q u hq hu).ext hE46).keep hH6 hv7 (by decide) ha7 (fun e=>by omega)
   ·simp only
    rw[hmk]
    exact hnew
  ·have hi64:i=64:=by omega
   subst hi64
   obtain⟨ogv,cgv,hgve,-,-,-,-,-⟩:=hH4.vec.shape
   rw[dN]at hgve
   obtain⟨ag,hag⟩:∃ag,og=some ag:=by
    cases og with
    | none=>have:=gg3 rfl;omega
    | some ag=>exact⟨ag,rfl⟩
   subst hag
   refine Idx.mk ag rfl (by omega) (by omega) ?_
   rw[hgve]at hH4 ⊢
   refine bA.kR (k:=k) [.slice ogv (n k+64) cgv] (by kernel_rfl) hgs4 rfl (by rw[bK];omega) rfl rfl (fun u hu=>by rw[List.mem_singleton.1 hu];rfl) fun w5 g cs hU hBg howng hgs5=>?_
   rw[rQ]at hgs5
   have hnes:∀(q:Nat) (u:Value) (us:List (List Value)),Held own4 M w4 D 50 4 q u us→Held own4 M w5 D 50 4 q u us:=fun q u us h=>h.upd hU (fun e=>by
    rcases iT h.vec hgs4 (by decide)with h|h
    ·rw[h]at e;cases e
    ·exact h (by rw[e,howng]))
   refine Ar.aM (k+1) (by omega) (by omega) ?_
   refine⟨(k+1,G.set k (.slice ogv (n k+64) cgv),own4),⟨hC4.trans (.bG hU (hMnew g hBg)),by simp only;omega,by simp only[List.length_set];exact hGl,hgs5,(fun q u hu=>hnes q u _ (hRo4 q u hu)),fun q u hq hu=>?_⟩,by simp only;omega,rfl,rfl,rfl,trivial⟩
   simp only at hq hu
   rw[List.getElem?_set]at hu
   by_cases hqk:k=q
   ·subst hqk
    rw[if_pos rfl,if_pos (by omega)]at hu
    cases hu
    exact hnes k _ _ hH4
   ·rw[if_neg hqk]at hu
    exact hnes q u _ (hGr4 q u (by omega) hu)
 have hkn:k=vs.length:=by omega
 subst hkn
 have hgsR:∀w',Ext w3 w'→∀(k:Nat) (v:Value),G[k]? = some v→∃a,og=some a∧Cells w' (a.add (k*1)) [v]:=fun w' h k v hv=>(hgs3.ext h).sl.el _ _ _ rfl k _ (dB hv)
 refine aH.mk (X:=Nat) (fun k=>[(0,.slice o vs.length c),(5,.slice og vs.length cg),(9,.int .i64 k)])
  (fun k w'=>Ext w3 w'∧k≤vs.length) (fun k=>vs.length-k) 0 ⟨Ext.refl _,Nat.zero_le _⟩ ⟨rfl,rfl,rfl,trivial⟩ ?_
 rintro k w4 ⟨hE4,hk4⟩
 refine Cond.dec (fun g4=>?_) (fun g4=>?_)
 ·have hkl:k<vs.length:=by omega
  obtain⟨v,hv⟩:∃v,vs[k]? = some v:=⟨_,List.getElem?_eq_getElem hkl⟩
  obtain⟨gv,hgv⟩:∃gv,G[k]? = some gv:=⟨_,List.getElem?_eq_getElem (by omega)⟩
  have hnk:=hn k
  refine aH.mk (X:=Nat) (fun i=>[(0,.slice o vs.length c),(5,.slice og vs.length cg),(9,.int .i64 k),(10,.int .i64 i)])
   (fun i w'=>Ext w3 w'∧i≤n k+64) (fun i=>n k+64-i) 0 ⟨hE4,Nat.zero_le _⟩ ⟨rfl,rfl,rfl,rfl,trivial⟩ ?_
  rintro i w5 ⟨hE5,hi5⟩
  have hHv:=hRo3 k v hv
  have hHg:=hGr3 k gv hkl hgv
  obtain⟨ov,cv,hve,v1,v2,v3,v4,-⟩:=hHv.vec.shape
  obtain⟨ox,cx,hxe,x1,x2,x3,x4,-⟩:=hHg.vec.shape
  rw[dN]at hve v1 hxe x1
  subst hve hxe
  obtain⟨ag,hag,hcg⟩:=hgsR w5 hE5 k _ hgv
  subst hag
  refine Idx.mk ag rfl (by omega) (by omega) ?_
  refine Load.here (hcg.one (k:=0) rfl) ?_
  refine Cond.dec (fun g5=>?_) (fun g5=>?_)
  ·have hil:i<n k+64:=by omega
   have hE5d:Ext w3 w5.drew:=hE5.trans (Ext.drew w5)
   obtain⟨a,ha,-⟩:=hlsR w3 hC3 k _ hv
   subst ha
   refine aQ.mk aB mixed (allT 0 9++[(9,false),(10,true),(11,true),(12,true),(13,true),(14,true),(15,true),(16,true),(17,true),(18,true),(19,true),(20,true),(21,true),(22,true),(23,true),(24,true),(25,true),(26,true),(27,true),(28,true),(29,true),(30,false),(31,true),(32,true),(33,true),(34,true)]) [] (by kernel_rfl) (fun w'=>Ext w5.drew w') (Ext.refl _) ?_
   refine Idx.mk ag rfl (by omega) (by omega) ?_
   refine Load.mk (.slice ox (n k+64) cx) (fun w' hE=>by
    obtain⟨a',e,hx⟩:=hgsR w' (hE5d.trans hE) k _ hgv
    cases e
    exact hx.one (k:=0) rfl) ?_
   obtain⟨ax,hax,-⟩:=x4 i (C k i) (jE k hil)
   subst hax
   refine Idx.mk ax rfl (by omega) (by omega) ?_
   refine Load.mk (.agg (mkN k i).cells.toArray) (fun w' hE=>by
    obtain⟨a',e,hx⟩:=x4.ext (hE5d.trans hE) i (C k i) (jE k hil)
    cases e
    rw[hCl]at hx
    exact hx.all' rfl) ?_
   refine aA.mk _ (fO k i _ (by omega) (by omega)) ?_
   rintro v6 w6 ⟨rfl,hE6⟩
   refine Need.mk hE6 ?_
   refine sG.mk (.bool true) (fun w' _=>by rw[kJ,decide_eq_true rfl]) ?_
   have hE7:=hE6
   repeat (first|refine gA ?_|refine gB ?_|refine gC ?_)
   refine Idx.mk a rfl (by omega) (by omega) ?_
   repeat (first|refine gA ?_|refine gB ?_|refine gC ?_)
   refine Load.mk (.slice ov (n k) cv) (fun w' hE=>by
    obtain⟨a',e,hx⟩:=hlsR w' (hC3.trans (.aL (hE5d.trans hE))) k _ hv
    cases e
    exact hx.one (k:=0) rfl) ?_
   repeat (first|refine gA ?_|refine gB ?_|refine gC ?_)
   refine aK.bB (fun g6=>?_) (fun g6=>?_)
   ·have hin:i<n k:=by omega
    repeat (first|refine gA ?_|refine gB ?_|refine gC ?_)
    refine Idx.mk a rfl (by omega) (by omega) ?_
    repeat (first|refine gA ?_|refine gB ?_|refine gC ?_)
    refine Load.mk (.slice ov (n k) cv) (fun w' hE=>by
     obtain⟨a',e,hx⟩:=hlsR w' (hC3.trans (.aL (hE5d.trans hE))) k _ hv
     cases e
     exact hx.one (k:=0) rfl) ?_
    repeat (first|refine gA ?_|refine gB ?_|refine gC ?_)
    obtain⟨av,hav,-⟩:=v4 i (C k i) (jE k hin)
    subst hav
    refine Idx.mk av rfl (by omega) (by omega) ?_
    repeat (first|refine gA ?_|refine gB ?_|refine gC ?_)
    refine Load.mk (.agg (mkN k i).cells.toArray) (fun w' hE=>by
     obtain⟨a',e,hx⟩:=v4.ext (hE5d.trans hE) i (C k i) (jE k hin)
     cases e
     rw[hCl]at hx
     exact hx.all' rfl) ?_
    repeat (first|refine gA ?_|refine gB ?_|refine gC ?_)
    refine aA.mk _ (fO k i _ (by omega) (by omega)) ?_
    rintro v8 w8 ⟨rfl,hE8'⟩
    have hE8:=hE7.trans hE8'
    repeat (first|refine gA ?_|refine gB ?_|refine gC ?_)
    refine Need.mk hE8 ?_
    repeat (first|refine gA ?_|refine gB ?_|refine gC ?_)
    refine sG.mk (.bool true) (fun w' _=>by rw[kJ,decide_eq_true rfl]) ?_
    have hE9:=hE8
    repeat (first|refine gA ?_|refine gB ?_|refine gC ?_)
    refine Cond.no ?_
    refine Ar.aM (i+1) (by omega) (by omega) ?_
    exact⟨i+1,⟨hE5d.trans hE9,by omega⟩,by omega,rfl,rfl,rfl,rfl,trivial⟩
   ·repeat (first|refine gA ?_|refine gB ?_|refine gC ?_)
    refine Cond.no ?_
    refine Ar.aM (i+1) (by omega) (by omega) ?_
    exact⟨i+1,⟨hE5d.trans hE7,by omega⟩,by omega,rfl,rfl,rfl,rfl,trivial⟩
  ·refine Ar.aM (k+1) (by omega) (by omega) ?_
   exact⟨k+1,⟨hE5,by omega⟩,by omega,rfl,rfl,rfl,trivial⟩
 have hRo4:=fun(q:Nat) (v:Value) h=>(hRo3 q v h).ext hE4
 have hgs4:=hgs3.ext hE4
 have hC4:=hC3.trans (.aL hE4)
 refine aH.mk (X:=Nat × List Value × (Nat→Nat)) (fun x=>[(0,.slice o vs.length c),(5,.slice og vs.length cg),(11,.int .i64 x.1)])
  (fun x w'=>Ch M w w'∧x.1≤vs.length∧x.2.1.length=vs.length∧Vec w' w.heap.size 31 1 (.slice og vs.length cg) (gP x.2.1)∧(∀(q:Nat) (v:Value),vs[q]? = some v→Held x.2.2 M w' D 50 4 q v (qU C q (n q)))∧
   (∀(q:Nat) (v:Value),q<x.1→x.2.1[q]? = some v→∃ys,Held x.2.2 M w' D 50 4 q v (qU C q (n q)++ys))) (fun x=>vs.length-x.1) (0,G,own3)
  ⟨hC4,Nat.zero_le _,hGl,hgs4,hRo4,fun q v h=>by simp at h⟩ ⟨rfl,rfl,rfl,trivial⟩ ?_
 clear hgs4 hRo4 hC4 hgsR
 rintro⟨k,G5,own5⟩ w5 ⟨hC5,hk5,hGl5,hgs5,hRo5,hGr5⟩
 simp only at hk5 hGl5 hgs5 hRo5 hGr5 ⊢
 refine Cond.dec (fun g5=>?_) (fun g5=>?_)
 ·have hkl:k<vs.length:=by omega
  obtain⟨v,hv⟩:∃v,vs[k]? = some v:=⟨_,List.getElem?_eq_getElem hkl⟩
  have hnk:=hn k
  refine aG.makeN (n:=64) bI w5.heap.size (Nat.le_refl _) (by omega) (by omega) [.int .u8 0,.string ⟨#[]⟩,.string ⟨#[]⟩,.int .i64 0] zc50 fun mv w6 hmv hE6 hmf=>?_
  obtain⟨om,cm,hme,m1,m2,m3,-,-⟩:=hmv.shape
  rw[List.length_replicate]at hme m1
  subst hme
  refine aH.mk (X:=Nat × List (List Value)) (fun x=>[(0,.slice o vs.length c),(5,.slice og vs.length cg),(11,.int .i64 k),(12,.slice om 64 cm),(13,.int .i64 x.1)])
   (fun x w'=>Ext w5 w'∧x.1≤64∧x.2.length=64∧Vec w' w5.heap.size 50 4 (.slice om 64 cm) x.2∧∀y∈x.2,y.length=4∧∀u∈y,u.oneCell'=true) (fun x=>64-x.1) (0,List.replicate 64 [.int .u8 0,.string ⟨#[]⟩,.string ⟨#[]⟩,.int .i64 0])
   ⟨hE6,Nat.zero_le _,by simp,hmv,fun y hy=>by
    rw[List.eq_of_mem_replicate hy]
    refine⟨rfl,fun u hu=>?_⟩
    simp only[List.mem_cons,List.not_mem_nil,or_false]at hu
    rcases hu with rfl|rfl|rfl|rfl<;>rfl⟩ ⟨rfl,rfl,rfl,rfl,rfl,trivial⟩ ?_
  rintro⟨i,xs⟩ w7 ⟨hE7,hi7,hxl,hmv7,hone⟩
  simp only at hi7 hxl hmv7 hone ⊢
  refine Cond.dec (fun g7=>?_) (fun g7=>?_)
  ·have hi64:i<64:=by omega
   refine Ar.aM (k+vs.length) (by omega) (by omega) ?_
   refine aA.mk _ (fO (k+vs.length) i _ (by omega) (by omega)) ?_
   rintro v8 w8 ⟨rfl,hE8⟩
   obtain⟨am,ham⟩:∃am,om=some am:=by
    cases om with
    | none=>have:=m3 rfl;omega
    | some am=>exact⟨am,rfl⟩
   subst ham
   refine Idx.mk am rfl (by omega) (by omega) ?_
   refine bA.kR (k:=i) (mkN (k+vs.length) i).cells (by kernel_rfl) (hmv7.ext hE8) rfl (by omega) rfl rfl (Nd.cells_one _) fun w9 g cs hU hBg howng hv9=>?_
   refine Ar.aM (i+1) (by omega) (by omega) ?_
   refine⟨(i+1,_),⟨(hE7.trans hE8).upd hU hBg,by simp only;omega,by simp only[List.length_set];exact hxl,hv9,fun y hy=>?_⟩,by simp only;omega,rfl,rfl,rfl,rfl,rfl,trivial⟩
   rcases List.mem_or_eq_of_mem_set hy with hy|rfl
   ·exact hone y hy
   ·exact⟨rfl,(Nd.cells_one _)⟩
  ·have hi64:i=64:=by omega
   subst hi64
   have hC7:=hC5.trans (.aL hE7)
   obtain⟨a,ha,hca⟩:=hlsR w7 hC7 k v hv
   subst ha
   have hH7:=(hRo5 k v hv).ext hE7
   have hgs7:=hgs5.ext hE7
   refine Idx.mk a rfl (by omega) (by omega) ?_
   refine Load.here (hca.one (k:=0) rfl) ?_
   refine bD.append2 bI D (qU C k (n k)) xs hH7.vec hmv7.sl hone (by rw[dN,hxl];omega) (by rw[dN,hxl];omega) (Nat.le_trans hD hC7.size) (by omega) fun gv8 w8 hv8 ha8=>?_
   have hnew:=hH7.new hv8 ha8 (fun g hg=>hMnew g (Nat.le_trans hC7.size hg))
   have hC8:=hC7.trans (.cO ha8.rel (fun b hb=>(hH7.tag b hb).2))
   have hgs8:Vec w8 w.heap.size 31 1 (.slice og vs.length cg) (gP G5):=by
    refine ha8.rel.vec hgs7 ?_
    rcases iT hgs7 hH7.vec (by decide)with h|h
    ·exact .inl h
    ·exact .inr h
   obtain⟨ogv,cgv,hgve,-,-,-,-,-⟩:=hv8.shape
   obtain⟨ag,hag⟩:∃ag,og=some ag:=by
    cases og with
    | none=>have:=gg3 rfl;omega
    | some ag=>exact⟨ag,rfl⟩
   subst hag
   refine Idx.mk ag rfl (by omega) (by omega) ?_
   rw[hgve]at hnew ⊢
   refine bA.kR (k:=k) [.slice ogv (qU C k (n k)++xs).length cgv] (by kernel_rfl) hgs8 rfl (by rw[bK];omega) rfl rfl (fun u hu=>by rw[List.mem_singleton.1 hu];rfl) fun w9 g cs hU hBg howng hgs9=>?_
   rw[rQ]at hgs9
   have hnes:∀(q:Nat) (u:Value) (us:List (List Value)),Held (gK own5 w7.heap.size k) M w8 D 50 4 q u us→Held (gK own5 w7.heap.size k) M w9 D 50 4 q u us:=fun q u us h=>h.upd hU (fun e=>by
    rcases iT h.vec hgs8 (by decide)with h|h
    ·rw[h]at e;cases e
    ·exact h (by rw[e,howng]))
   refine Ar.aM (k+1) (by omega) (by omega) ?_
   refine⟨(k+1,G5.set k (.slice ogv (qU C k (n k)++xs).length cgv),gK own5 w7.heap.size k),⟨hC8.trans (.bG hU (hMnew g hBg)),by simp only;omega,by simp only[List.length_set];exact hGl5,hgs9,(fun q u hu=>hnes q u _ (((hRo5 q u hu).ext hE7).keep hH7 hv8 (by decide) ha8 (fun e=>by
    subst e
    exact⟨Nat.le_refl _,by rw[dN,yD q (Nat.le_refl _)]⟩))),fun q u hq hu=>?_⟩,by simp only;omega,rfl,rfl,rfl,trivial⟩
   simp only at hq hu
   rw[List.getElem?_set]at hu
   by_cases hqk:k=q
   ·subst hqk
    rw[if_pos rfl,if_pos (by omega)]at hu
    cases hu
    exact⟨xs,hnes k _ _ hnew⟩
   ·rw[if_neg hqk]at hu
    obtain⟨ys,h⟩:=hGr5 q u (by omega) hu
    exact⟨ys,hnes q u _ ((h.ext hE7).keep hH7 hv8 (by decide) ha8 (fun e=>by omega))⟩
 have hkn:k=vs.length:=by omega
 subst hkn
 have hgsR:∀w',Ext w5 w'→∀(k:Nat) (v:Value),G5[k]? = some v→∃a,og=some a∧Cells w' (a.add (k*1)) [v]:=fun w' h k v hv=>(hgs5.ext h).sl.el _ _ _ rfl k _ (dB hv)
 refine aH.mk (X:=Nat) (fun k=>[(0,.slice o vs.length c),(5,.slice og vs.length cg),(14,.int .i64 k)])
  (fun k w'=>Ext w5 w'∧k≤vs.length) (fun k=>vs.length-k) 0 ⟨Ext.refl _,Nat.zero_le _⟩ ⟨rfl,rfl,rfl,trivial⟩ ?_
 rintro k w6 ⟨hE6,hk6⟩
 refine Cond.dec (fun g6=>?_) (fun g6=>?_)
 ·have hkl:k<vs.length:=by omega
  obtain⟨v,hv⟩:∃v,vs[k]? = some v:=⟨_,List.getElem?_eq_getElem hkl⟩
  obtain⟨gv,hgv⟩:∃gv,G5[k]? = some gv:=⟨_,List.getElem?_eq_getElem (by omega)⟩
  have hnk:=hn k
  refine aH.mk (X:=Nat) (fun i=>[(0,.slice o vs.length c),(5,.slice og vs.length cg),(14,.int .i64 k),(15,.int .i64 i)])
   (fun i w'=>Ext w5 w'∧i≤n k) (fun i=>n k-i) 0 ⟨hE6,Nat.zero_le _⟩ ⟨rfl,rfl,rfl,rfl,trivial⟩ ?_
  rintro i w7 ⟨hE7,hi7⟩
  have hHv:=hRo5 k v hv
  obtain⟨ys,hHg⟩:=hGr5 k gv hkl hgv
  obtain⟨ov,cv,hve,v1,v2,v3,v4,-⟩:=hHv.vec.shape
  obtain⟨ox,cx,hxe,x1,x2,x3,x4,-⟩:=hHg.vec.shape
  rw[dN]at hve v1
  rw[List.length_append,dN]at hxe x1
  subst hve hxe
  obtain⟨a,ha,hca⟩:=hlsR w7 (hC5.trans (.aL hE7)) k _ hv
  subst ha
  refine Idx.mk a rfl (by omega) (by omega) ?_
  refine Load.here (hca.one (k:=0) rfl) ?_
  refine Cond.dec (fun g7=>?_) (fun g7=>?_)
  ·have hin:i<n k:=by omega
   have hE7d:Ext w5 w7.drew:=hE7.trans (Ext.drew w7)
   obtain⟨ag,hag,-⟩:=hgsR w7 hE7 k _ hgv
   subst hag
   have hxi:(qU C k (n k)++ys)[i]? = some (C k i):=by rw[List.getElem?_append_left (by rw[dN];exact hin)];exact jE k hin
   refine aQ.mk aB mixed (allT 0 9++[(9,false),(10,true),(11,true),(12,true),(13,true),(14,true),(15,true),(16,true),(17,true),(18,true),(19,true),(20,true),(21,true),(22,false),(23,true),(24,true),(25,true)]) [] (by kernel_rfl) (fun w'=>Ext w7.drew w') (Ext.refl _) ?_
   refine Idx.mk a rfl (by omega) (by omega) ?_
   refine Load.mk (.slice ov (n k) cv) (fun w' hE=>by
    obtain⟨a',e,hx⟩:=hlsR w' (hC5.trans (.aL (hE7d.trans hE))) k _ hv
    cases e
    exact hx.one (k:=0) rfl) ?_
   obtain⟨av,hav,-⟩:=v4 i (C k i) (jE k hin)
   subst hav
   refine Idx.mk av rfl (by omega) (by omega) ?_
   refine Load.mk (.agg (mkN k i).cells.toArray) (fun w' hE=>by
    obtain⟨a',e,hx⟩:=v4.ext (hE7d.trans hE) i (C k i) (jE k hin)
    cases e
    rw[hCl]at hx
    exact hx.all' rfl) ?_
   refine aA.mk _ (fO k i _ (by omega) (by omega)) ?_
   rintro v6 w6 ⟨rfl,hE6⟩
   refine Need.mk hE6 ?_
   refine sG.mk (.bool true) (fun w' _=>by rw[kJ,decide_eq_true rfl]) ?_
   have hE7:=hE6
   repeat (first|refine gA ?_|refine gB ?_|refine gC ?_)
   refine Idx.mk ag rfl (by omega) (by omega) ?_
   repeat (first|refine gA ?_|refine gB ?_|refine gC ?_)
   refine Load.mk (.slice ox (n k+ys.length) cx) (fun w' hE=>by
    obtain⟨a',e,hx⟩:=hgsR w' (hE7d.trans hE) k _ hgv
    cases e
    exact hx.one (k:=0) rfl) ?_
   repeat (first|refine gA ?_|refine gB ?_|refine gC ?_)
   obtain⟨ax,hax,-⟩:=x4 i (C k i) hxi
   subst hax
   refine Idx.mk ax rfl (by omega) (by omega) ?_
   repeat (first|refine gA ?_|refine gB ?_|refine gC ?_)
   refine Load.mk (.agg (mkN k i).cells.toArray) (fun w' hE=>by
    obtain⟨a',e,hx⟩:=x4.ext (hE7d.trans hE) i (C k i) hxi
    cases e
    rw[hCl]at hx
    exact hx.all' rfl) ?_
   repeat (first|refine gA ?_|refine gB ?_|refine gC ?_)
   refine aA.mk _ (fO k i _ (by omega) (by omega)) ?_
   rintro v8 w8 ⟨rfl,hE8'⟩
   have hE8:=hE7.trans hE8'
   repeat (first|refine gA ?_|refine gB ?_|refine gC ?_)
   refine Need.mk hE8 ?_
   repeat (first|refine gA ?_|refine gB ?_|refine gC ?_)
   refine sG.mk (.bool true) (fun w' _=>by rw[kJ,decide_eq_true rfl]) ?_
   have hE9:=hE8
   repeat (first|refine gA ?_|refine gB ?_|refine gC ?_)
   refine Cond.no ?_
   refine Ar.aM (i+1) (by omega) (by omega) ?_
   exact⟨i+1,⟨hE7d.trans hE9,by omega⟩,by omega,rfl,rfl,rfl,rfl,trivial⟩
  ·refine Ar.aM (k+1) (by omega) (by omega) ?_
   exact⟨k+1,⟨hE7,by omega⟩,by omega,rfl,rfl,rfl,trivial⟩
 ·exact And.intro rfl (hfin _ (hC5.trans (.aL hE6)))
theorem elem29:lG Tryz.prog 29 22 1 24:=by
 obtain⟨i,h1,h2,h3,h4⟩:=nW (t:=22) (z:=.slice none 0 0) (m:=1) (b:=24) (by kernel_rfl)
 exact⟨Tryz.underlying29,⟨i,_,h1,h2,h3,h4,rfl⟩,by decide⟩
theorem zc22:∀i z,Tryz.prog.info? 22=some i→i.zero=some z→z.cells=[Value.slice none 0 0].toArray:=fun i z hi hz=>by
 have h:(Tryz.prog.info? 22).bind (·.zero)=some (.slice none 0 0):=by kernel_rfl
 rw[hi]at h
 have h':i.zero=some (.slice none 0 0):=h
 rw[hz]at h'
 cases h'
 rfl
theorem zc41:∀i z,Tryz.prog.info? 41=some i→i.zero=some z→z.cells=([.int .u8 0,.int .i64 0,.string ⟨#[]⟩,.slice none 0 0]:List Value).toArray:=fun i z hi hz=>by
 have h:(Tryz.prog.info? 41).bind (·.zero)=some (.agg ([.int .u8 0,.int .i64 0,.string ⟨#[]⟩,.slice none 0 0]:List Value).toArray):=by kernel_rfl
 rw[hi]at h
 have h':i.zero=some (.agg ([.int .u8 0,.int .i64 0,.string ⟨#[]⟩,.slice none 0 0]:List Value).toArray):=h
 rw[hz]at h'
 cases h'
 rfl
set_option maxHeartbeats 6400000 in
theorem flat107_con(o:Option Addr)(c:Nat)(vs:List Value)(n:Nat→Nat)(D Dl:Nat)(w:World)(hls:Vec w Dl 22 1 (.slice o vs.length c) (gP vs))
  (hvs:∀(q:Nat) (v:Value),vs[q]? = some v→∃xs,Vec w D 41 4 v xs∧xs.length=n q) (hap:ApartL vs) (hlen:vs.length≤1000) (hn:∀q,n q≤1000000) (hD:D≤w.heap.size) :
  bV Tryz.prog 107 #[.slice o vs.length c] w (fun r w'=>r=.bool true∧Ch (fun k=>∃(q:Nat) (v:Value),vs[q]? = some v∧v.ownBlock=some k) w w'):=by
 have hml:maxLen=9223372036854775807:=rfl
 obtain⟨own,hown⟩:=hap.own
 obtain⟨C,hC⟩:∃C:Nat→Nat→List Value,C=fun k i=>(xK k i).cells:=⟨_,rfl⟩
 have hCl:∀k i,C k i=(xK k i).cells:=fun k i=>by rw[hC]
 have hCone:∀k m,∀y∈qU C k m,y.length=4∧∀u∈y,u.oneCell'=true:=fun k m y hy=>by
  obtain⟨i,-,rfl⟩:=List.mem_map.1 hy
  rw[hCl]
  exact⟨rfl,(qE _ _)⟩
 obtain⟨M,hM⟩:∃M:Nat→Prop,M=fun k=>w.heap.size≤k∨∃(q:Nat) (v:Value),vs[q]? = some v∧v.ownBlock=some k:=⟨_,rfl⟩
 have hMnew:∀g,w.heap.size≤g→M g:=fun g hg=>by rw[hM];exact .inl hg
 have hMown:∀(q:Nat) (v:Value) g,vs[q]? = some v→v.ownBlock=some g→M g:=fun q v g h1 h2=>by rw[hM];exact .inr ⟨q,v,h1,h2⟩
 have hfin:∀w',Ch M w w'→Ch (fun k=>∃(q:Nat) (v:Value),vs[q]? = some v∧v.ownBlock=some k) w w':=fun w' h=>by
  rw[hM]at h
  exact h.strip
 have hlsC:∀w',Ch M w w'→Vec w' Dl 22 1 (.slice o vs.length c) (gP vs):=fun w' h=>h.vec hls fun g hg hm=>by
  rw[hM]at hm
  rcases hm with hm|⟨q,v,h1,h2⟩
  ·have:=(hls.ge hg).2;omega
  ·obtain⟨xs,hx,-⟩:=hvs q v h1
   rcases iT hx hls (by decide)with h|h
   ·rw[h]at h2;cases h2
   ·exact h (by rw[h2,hg])
 have hlsR:∀w',Ch M w w'→∀(k:Nat) (v:Value),vs[k]? = some v→∃a,o=some a∧Cells w' (a.add (k*1)) [v]:=fun w' h k v hv=>(hlsC w' h).sl.el _ _ _ rfl k _ (dB hv)
 have hH0:∀(q:Nat) (v:Value),vs[q]? = some v→∃xs,Held own M w D 41 4 q v xs∧xs.length=n q:=fun q v h=>by
  obtain⟨xs,h1,h2⟩:=hvs q v h
  exact⟨xs,⟨h1,fun g hg=>⟨hown q v h g hg,hMown q v g h hg⟩⟩,h2⟩
 refine enter aB Tryz.func107 (aV rfl) rfl rfl rfl ?_
 refine aH.mk (X:=Nat) (fun k=>[(0,.slice o vs.length c),(3,.int .i64 k)])
  (fun k w'=>Ch M w w'∧k≤vs.length∧∀(q:Nat) (v:Value),vs[q]? = some v→∃xs,Held own M w' D 41 4 q v xs∧xs.length=n q∧∀j,j<prog n k 0 q→xs[j]? = some (C q j)) (fun k=>vs.length-k) 0
  ⟨Ch.refl _ _,Nat.zero_le _,fun q v h=>by
   obtain⟨xs,h1,h2⟩:=hH0 q v h
   refine⟨xs,h1,h2,fun j hj=>?_⟩
   simp[prog]at hj⟩ ⟨rfl,rfl,trivial⟩ ?_
 rintro k w1 ⟨hC1,hk,hR1⟩
 refine Cond.dec (fun g1=>?_) (fun g1=>?_)
 ·have hkl:k<vs.length:=by omega
  obtain⟨v,hv⟩:∃v,vs[k]? = some v:=⟨_,List.getElem?_eq_getElem hkl⟩
  refine aH.mk (X:=Nat) (fun i=>[(0,.slice o vs.length c),(3,.int .i64 k),(4,.int .i64 i)])
   (fun i w'=>Ch M w w'∧i≤n k∧∀(q:Nat) (v:Value),vs[q]? = some v→∃xs,Held own M w' D 41 4 q v xs∧xs.length=n q∧∀j,j<prog n k i q→xs[j]? = some (C q j)) (fun i=>n k-i) 0
   ⟨hC1,Nat.zero_le _,hR1⟩ ⟨rfl,rfl,rfl,trivial⟩ ?_
  rintro i w2 ⟨hC2,hi,hR2⟩
  obtain⟨a,ha,hca⟩:=hlsR w2 hC2 k v hv
  subst ha
  obtain⟨xs,hH,hxl,hxj⟩:=hR2 k v hv
  obtain⟨ov,cv,hve,v1,v2,v3,-,-⟩:=hH.vec.shape
  rw[hxl]at hve v1
  subst hve
  refine Idx.mk a rfl (by omega) (by omega) ?_
  refine Load.here (hca.one (k:=0) rfl) ?_
  have hnk:=hn k
  refine Cond.dec (fun g2=>?_) (fun g2=>?_)
  ·have hil:i<n k:=by omega
   obtain⟨av,hav⟩:∃av,ov=some av:=by
    cases ov with
    | none=>have:=v3 rfl;omega
    | some av=>exact⟨av,rfl⟩
   subst hav
   refine aQ.mk aB mixed (allT 0 7++[(7,false),(8,true),(9,false)]) [9] (by kernel_rfl) (fun w'=>Ext w2.drew w') (Ext.refl _) ?_
   refine Idx.mk a rfl (by omega) (by omega) ?_
   refine Load.mk (.slice (some av) (n k) cv) (fun w' hE=>by
    obtain⟨a',e,hx⟩:=hlsR w' (hC2.trans (.aL ((Ext.drew w2).trans hE))) k _ hv
    cases e
    exact hx.one (k:=0) rfl) ?_
   refine aA.mk _ (fP k i _ (by omega) (by omega)) ?_
   rintro v4 w4 ⟨rfl,hE4⟩
   refine Need.mk hE4 ?_
   refine Idx.mk av rfl (by omega) (by omega) ?_
   have hE24:=(Ext.drew w2).trans hE4
   refine bA.kR (k:=i) (xK k i).cells (by kernel_rfl) (hH.vec.ext hE24) rfl (by omega) rfl rfl (qE _ _) fun w5 g cs hU hBg howng hv5=>?_
   refine Ar.aM (i+1) (by omega) (by omega) ?_
   refine⟨i+1,⟨(hC2.trans (.aL hE24)).trans (.bG hU (hMown k _ g hv howng)),by omega,fun q u hu=>?_⟩,by omega,rfl,rfl,rfl,trivial⟩
   by_cases hq:q=k
   ·subst hq
    rw[hv]at hu
    cases hu
    refine⟨_,⟨hv5,hH.tag⟩,by rw[List.length_set];exact hxl,fun j hj=>?_⟩
    simp only[prog,Nat.lt_irrefl,if_false,if_true]at hj
    rw[List.getElem?_set]
    by_cases hij:i=j
    ·subst hij
     rw[if_pos rfl,if_pos (by omega),hCl]
    ·rw[if_neg hij]
     exact hxj j (by simp only[prog,Nat.lt_irrefl,if_false,if_true];omega)
   ·obtain⟨ys,h1,h2,h3⟩:=hR2 q u hu
    refine⟨ys,(h1.ext hE24).upd hU (fun e=>?_),h2,fun j hj=>h3 j (by simp only[prog,hq,if_false]at hj ⊢;exact hj)⟩
    have e1:=(h1.tag g e).1
    have e2:=(hH.tag g howng).1
    omega
  ·have hin:i=n k:=by omega
   refine Ar.aM (k+1) (by omega) (by omega) ?_
   refine⟨k+1,⟨hC2,by omega,fun q u hu=>?_⟩,by omega,rfl,rfl,trivial⟩
   obtain⟨ys,h1,h2,h3⟩:=hR2 q u hu
   refine⟨ys,h1,h2,fun j hj=>h3 j ?_⟩
   by_cases hq:q<k
   ·simp only[prog,hq,if_true]at hj ⊢
    rw[if_pos (by omega)]at hj
    exact hj
   ·by_cases hq2:q=k
    ·subst hq2
     simp only[prog,Nat.lt_irrefl,if_false,if_true,Nat.lt_succ_self]at hj ⊢
     omega
    ·simp only[prog]at hj
     rw[if_neg (by omega)]at hj
     split at hj<;>omega
 have hRows:∀(q:Nat) (v:Value),vs[q]? = some v→Held own M w1 D 41 4 q v (qU C q (n q)):=fun q v h=>by
  obtain⟨xs,h1,h2,h3⟩:=hR1 q v h
  have hq:q<vs.length:=(List.getElem?_eq_some_iff.1 h).1
  rw[mkc_ext q (n q) h2 (fun j hj=>h3 j (by simp only[prog];rw[if_pos (by omega)];exact hj))]at h1
  exact h1
 refine aG.makeN elem29 w.heap.size hC1.size (by omega) (by omega) [.slice none 0 0] zc22 fun gsv w2 hgs hE2 hgf=>?_
 obtain⟨og,cg,hge,gg1,gg2,gg3,-,-⟩:=hgs.shape
 rw[List.length_replicate]at hge gg1
 subst hge
 have hG0:gP (List.replicate vs.length (.slice none 0 0))=List.replicate vs.length [.slice none 0 0]:=by simp[gP]
 rw[←hG0]at hgs
 refine aH.mk (X:=Nat × List Value × (Nat→Nat)) (fun x=>[(0,.slice o vs.length c),(5,.slice og vs.length cg),(6,.int .i64 x.1)])
  (fun x w'=>Ch M w w'∧x.1≤vs.length∧x.2.1.length=vs.length∧Vec w' w.heap.size 22 1 (.slice og vs.length cg) (gP x.2.1)∧(∀(q:Nat) (v:Value),vs[q]? = some v→Held x.2.2 M w' D 41 4 q v (qU C q (n q)))∧
   (∀(q:Nat) (v:Value),q<x.1→x.2.1[q]? = some v→Held x.2.2 M w' D 41 4 q v (qU C q (n q+64)))) (fun x=>vs.length-x.1) (0,List.replicate vs.length (.slice none 0 0),own)
  ⟨hC1.trans (.aL hE2),Nat.zero_le _,by simp,hgs,(fun q v h=>(hRows q v h).ext hE2),fun q v h=>by simp at h⟩ ⟨rfl,rfl,rfl,trivial⟩ ?_
 rintro⟨k,G,own3⟩ w3 ⟨hC3,hk3,hGl,hgs3,hRo3,hGr3⟩
 simp only at hk3 hGl hgs3 hRo3 hGr3 ⊢
 refine Cond.dec (fun g3=>?_) (fun g3=>?_)
 ·have hkl:k<vs.length:=by omega
  obtain⟨v,hv⟩:∃v,vs[k]? = some v:=⟨_,List.getElem?_eq_getElem hkl⟩
  obtain⟨a,ha,hca⟩:=hlsR w3 hC3 k v hv
  subst ha
  have hnk:=hn k
  refine Idx.mk a rfl (by omega) (by omega) ?_
  refine Load.here (hca.one (k:=0) rfl) ?_
  refine aH.mk (X:=Nat × Value × (Nat→Nat)) (fun x=>[(0,.slice (some a) vs.length c),(5,.slice og vs.length cg),(6,.int .i64 k),(7,x.2.1),(8,.int .i64 x.1)])
   (fun x w'=>Ch M w w'∧x.1≤64∧Vec w' w.heap.size 22 1 (.slice og vs.length cg) (gP G)∧(∀(q:Nat) (v:Value),vs[q]? = some v→Held x.2.2 M w' D 41 4 q v (qU C q (n q)))∧
    (∀(q:Nat) (v:Value),q<k→G[q]? = some v→Held x.2.2 M w' D 41 4 q v (qU C q (n q+64)))∧Held x.2.2 M w' D 41 4 k x.2.1 (qU C k (n k+x.1))) (fun x=>64-x.1) (0,v,own3)
   ⟨hC3,Nat.zero_le _,hgs3,hRo3,hGr3,hRo3 k v hv⟩ ⟨rfl,rfl,rfl,rfl,rfl,trivial⟩ ?_
  rintro⟨i,gv,own4⟩ w4 ⟨hC4,hi4,hgs4,hRo4,hGr4,hH4⟩
  simp only at hi4 hgs4 hRo4 hGr4 hH4 ⊢
  refine Cond.dec (fun g4=>?_) (fun g4=>?_)
  ·have hi64:i<64:=by omega
   obtain⟨a',e,hca4⟩:=hlsR w4 hC4 k v hv
   cases e
   obtain⟨ov,cv,hve,-,-,-,-,-⟩:=(hRo4 k v hv).vec.shape
   rw[dN]at hve
   subst hve
   refine Idx.mk a rfl (by omega) (by omega) ?_
   refine Load.here (hca4.one (k:=0) rfl) ?_
   refine Ar.aM (n k+i) (by omega) (by omega) ?_
   refine aA.mk _ (fP k (n k+i) _ (by omega) (by omega)) ?_
   rintro v5 w5 ⟨rfl,hE5⟩
   refine aG.mk _ _ (pU (xK k (n k+i)) _ _ _ rfl _) ?_
   obtain⟨w6,hw6⟩:∃w',w'=w5.alloc (.cells (xK k (n k+i)).cells.toArray 41):=⟨_,rfl⟩
   have n6:bO w5 w5.heap.size (xK k (n k+i)).cells 41 w6:=⟨rfl,hw6⟩
   have hE46:=hE5.trans n6.ext
   refine(show _ from ?_:bD _ _ w6 _) |> fun h=>by rw[hw6]at h;exact h
   have hH6:=hH4.ext hE46
   refine bD.append2 fT D (qU C k (n k+i)) [(xK k (n k+i)).cells] hH6.vec (aT n6) (fun y hy=>by
    rw[List.mem_singleton.1 hy]
    exact⟨rfl,(qE _ _)⟩) (by rw[dN,List.length_singleton];omega) (by rw[dN,List.length_singleton];omega) (Nat.le_trans hD (Nat.le_trans hC4.size hE46.sz)) (by simp) fun gv7 w7 hv7 ha7=>?_
   have hnew:=hH6.new hv7 ha7 (fun g hg=>hMnew g (Nat.le_trans (Nat.le_trans hC4.size hE46.sz) hg))
   have hmk:qU C k (n k+(i+1))=qU C k (n k+i)++[(xK k (n k+i)).cells]:=by rw[←Nat.add_assoc,mkc_succ,hCl]
   have hC6:=hC4.trans (.aL hE46)
   have hC7:=hC6.trans (.cO ha7.rel (fun b hb=>(hH6.tag b hb).2))
   have hgs6:=hgs4.ext hE46
   refine Ar.aM (i+1) (by omega) (by omega) ?_
   refine⟨(i+1,gv7,gK own4 w6.heap.size k),⟨hC7,by simp only;omega,?_,fun q u hu=>?_,fun q u hq hu=>?_,?_⟩,by simp only;omega,rfl,rfl,rfl,rfl,rfl,trivial⟩
   ·refine ha7.rel.vec hgs6 ?_
    rcases iT hgs6 hH6.vec (by decide)with h|h
    ·exact .inl h
    ·exact .inr h
   ·refine((hRo4 q u hu).ext hE46).keep hH6 hv7 (by decide) ha7 (fun e=>?_)
    subst e
    exact⟨by rw[dN,dN];omega,by rw[dN,yD q (Nat.le_add_right _ _)]⟩
   ·exact((hGr4 q u hq hu).ext hE46).keep hH6 hv7 (by decide) ha7 (fun e=>by omega)
   ·simp only
    rw[hmk]
    exact hnew
  ·have hi64:i=64:=by omega
   subst hi64
   obtain⟨ogv,cgv,hgve,-,-,-,-,-⟩:=hH4.vec.shape
   rw[dN]at hgve
   obtain⟨ag,hag⟩:∃ag,og=some ag:=by
    cases og with
    | none=>have:=gg3 rfl;omega
    | some ag=>exact⟨ag,rfl⟩
   subst hag
   refine Idx.mk ag rfl (by omega) (by omega) ?_
   rw[hgve]at hH4 ⊢
   refine bA.kR (k:=k) [.slice ogv (n k+64) cgv] (by kernel_rfl) hgs4 rfl (by rw[bK];omega) rfl rfl (fun u hu=>by rw[List.mem_singleton.1 hu];rfl) fun w5 g cs hU hBg howng hgs5=>?_
   rw[rQ]at hgs5
   have hnes:∀(q:Nat) (u:Value) (us:List (List Value)),Held own4 M w4 D 41 4 q u us→Held own4 M w5 D 41 4 q u us:=fun q u us h=>h.upd hU (fun e=>by
    rcases iT h.vec hgs4 (by decide)with h|h
    ·rw[h]at e;cases e
    ·exact h (by rw[e,howng]))
   refine Ar.aM (k+1) (by omega) (by omega) ?_
   refine⟨(k+1,G.set k (.slice ogv (n k+64) cgv),own4),⟨hC4.trans (.bG hU (hMnew g hBg)),by simp only;omega,by simp only[List.length_set];exact hGl,hgs5,(fun q u hu=>hnes q u _ (hRo4 q u hu)),fun q u hq hu=>?_⟩,by simp only;omega,rfl,rfl,rfl,trivial⟩
   simp only at hq hu
   rw[List.getElem?_set]at hu
   by_cases hqk:k=q
   ·subst hqk
    rw[if_pos rfl,if_pos (by omega)]at hu
    cases hu
    exact hnes k _ _ hH4
   ·rw[if_neg hqk]at hu
    exact hnes q u _ (hGr4 q u (by omega) hu)
 have hkn:k=vs.length:=by omega
 subst hkn
 have hgsR:∀w',Ext w3 w'→∀(k:Nat) (v:Value),G[k]? = some v→∃a,og=some a∧Cells w' (a.add (k*1)) [v]:=fun w' h k v hv=>(hgs3.ext h).sl.el _ _ _ rfl k _ (dB hv)
 refine aH.mk (X:=Nat) (fun k=>[(0,.slice o vs.length c),(5,.slice og vs.length cg),(9,.int .i64 k)])
  (fun k w'=>Ext w3 w'∧k≤vs.length) (fun k=>vs.length-k) 0 ⟨Ext.refl _,Nat.zero_le _⟩ ⟨rfl,rfl,rfl,trivial⟩ ?_
 rintro k w4 ⟨hE4,hk4⟩
 refine Cond.dec (fun g4=>?_) (fun g4=>?_)
 ·have hkl:k<vs.length:=by omega
  obtain⟨v,hv⟩:∃v,vs[k]? = some v:=⟨_,List.getElem?_eq_getElem hkl⟩
  obtain⟨gv,hgv⟩:∃gv,G[k]? = some gv:=⟨_,List.getElem?_eq_getElem (by omega)⟩
  have hnk:=hn k
  refine aH.mk (X:=Nat) (fun i=>[(0,.slice o vs.length c),(5,.slice og vs.length cg),(9,.int .i64 k),(10,.int .i64 i)])
   (fun i w'=>Ext w3 w'∧i≤n k+64) (fun i=>n k+64-i) 0 ⟨hE4,Nat.zero_le _⟩ ⟨rfl,rfl,rfl,rfl,trivial⟩ ?_
  rintro i w5 ⟨hE5,hi5⟩
  have hHv:=hRo3 k v hv
  have hHg:=hGr3 k gv hkl hgv
  obtain⟨ov,cv,hve,v1,v2,v3,v4,-⟩:=hHv.vec.shape
  obtain⟨ox,cx,hxe,x1,x2,x3,x4,-⟩:=hHg.vec.shape
  rw[dN]at hve v1 hxe x1
  subst hve hxe
  obtain⟨ag,hag,hcg⟩:=hgsR w5 hE5 k _ hgv
  subst hag
  refine Idx.mk ag rfl (by omega) (by omega) ?_
  refine Load.here (hcg.one (k:=0) rfl) ?_
  refine Cond.dec (fun g5=>?_) (fun g5=>?_)
  ·have hil:i<n k+64:=by omega
   have hE5d:Ext w3 w5.drew:=hE5.trans (Ext.drew w5)
   obtain⟨a,ha,-⟩:=hlsR w3 hC3 k _ hv
   subst ha
   refine aQ.mk aB mixed (allT 0 9++[(9,false),(10,false),(11,true),(12,true),(13,true),(14,true),(15,true),(16,true),(17,true),(18,true),(19,true),(20,true),(21,true),(22,true),(23,true),(24,true),(25,true),(26,true),(27,true),(28,true),(29,true),(30,false),(31,false),(32,true),(33,true),(34,true)]) [] (by kernel_rfl) (fun w'=>Ext w5.drew w') (Ext.refl _) ?_
   refine Idx.mk ag rfl (by omega) (by omega) ?_
   refine Load.mk (.slice ox (n k+64) cx) (fun w' hE=>by
    obtain⟨a',e,hx⟩:=hgsR w' (hE5d.trans hE) k _ hgv
    cases e
    exact hx.one (k:=0) rfl) ?_
   obtain⟨ax,hax,-⟩:=x4 i (C k i) (jE k hil)
   subst hax
   refine Idx.mk ax rfl (by omega) (by omega) ?_
   refine Load.mk (.agg (xK k i).cells.toArray) (fun w' hE=>by
    obtain⟨a',e,hx⟩:=x4.ext (hE5d.trans hE) i (C k i) (jE k hil)
    cases e
    rw[hCl]at hx
    exact hx.all' rfl) ?_
   refine aA.mk _ (fP k i _ (by omega) (by omega)) ?_
   rintro v6 w6 ⟨rfl,hE6⟩
   refine Need.mk hE6 ?_
   refine aA.mk _ (iZ (w:=w6) (qR w6 k i (by omega) (by omega)) (qR w6 k i (by omega) (by omega))) ?_
   rintro vc6 w7 ⟨hvc,hE7'⟩
   rw[decide_eq_true rfl]at hvc
   subst hvc
   have hE7:=hE6.trans hE7'
   repeat (first|refine gA ?_|refine gB ?_|refine gC ?_)
   refine Need.mk hE7 ?_
   repeat (first|refine gA ?_|refine gB ?_|refine gC ?_)
   refine Idx.mk a rfl (by omega) (by omega) ?_
   repeat (first|refine gA ?_|refine gB ?_|refine gC ?_)
   refine Load.mk (.slice ov (n k) cv) (fun w' hE=>by
    obtain⟨a',e,hx⟩:=hlsR w' (hC3.trans (.aL (hE5d.trans hE))) k _ hv
    cases e
    exact hx.one (k:=0) rfl) ?_
   repeat (first|refine gA ?_|refine gB ?_|refine gC ?_)
   refine aK.bB (fun g6=>?_) (fun g6=>?_)
   ·have hin:i<n k:=by omega
    repeat (first|refine gA ?_|refine gB ?_|refine gC ?_)
    refine Idx.mk a rfl (by omega) (by omega) ?_
    repeat (first|refine gA ?_|refine gB ?_|refine gC ?_)
    refine Load.mk (.slice ov (n k) cv) (fun w' hE=>by
     obtain⟨a',e,hx⟩:=hlsR w' (hC3.trans (.aL (hE5d.trans hE))) k _ hv
     cases e
     exact hx.one (k:=0) rfl) ?_
    repeat (first|refine gA ?_|refine gB ?_|refine gC ?_)
    obtain⟨av,hav,-⟩:=v4 i (C k i) (jE k hin)
    subst hav
    refine Idx.mk av rfl (by omega) (by omega) ?_
    repeat (first|refine gA ?_|refine gB ?_|refine gC ?_)
    refine Load.mk (.agg (xK k i).cells.toArray) (fun w' hE=>by
     obtain⟨a',e,hx⟩:=v4.ext (hE5d.trans hE) i (C k i) (jE k hin)
     cases e
     rw[hCl]at hx
     exact hx.all' rfl) ?_
    repeat (first|refine gA ?_|refine gB ?_|refine gC ?_)
    refine aA.mk _ (fP k i _ (by omega) (by omega)) ?_
    rintro v8 w8 ⟨rfl,hE8'⟩
    have hE8:=hE7.trans hE8'
    repeat (first|refine gA ?_|refine gB ?_|refine gC ?_)
    refine Need.mk hE8 ?_
    repeat (first|refine gA ?_|refine gB ?_|refine gC ?_)
    refine aA.mk _ (iZ (w:=w8) (qR w8 k i (by omega) (by omega)) (qR w8 k i (by omega) (by omega))) ?_
    rintro vc8 w9 ⟨hvc,hE9'⟩
    rw[decide_eq_true rfl]at hvc
    subst hvc
    have hE9:=hE8.trans hE9'
    repeat (first|refine gA ?_|refine gB ?_|refine gC ?_)
    refine Need.mk hE9 ?_
    repeat (first|refine gA ?_|refine gB ?_|refine gC ?_)
    refine Cond.no ?_
    refine Ar.aM (i+1) (by omega) (by omega) ?_
    exact⟨i+1,⟨hE5d.trans hE9,by omega⟩,by omega,rfl,rfl,rfl,rfl,trivial⟩
   ·repeat (first|refine gA ?_|refine gB ?_|refine gC ?_)
    refine Cond.no ?_
    refine Ar.aM (i+1) (by omega) (by omega) ?_
    exact⟨i+1,⟨hE5d.trans hE7,by omega⟩,by omega,rfl,rfl,rfl,rfl,trivial⟩
  ·refine Ar.aM (k+1) (by omega) (by omega) ?_
   exact⟨k+1,⟨hE5,by omega⟩,by omega,rfl,rfl,rfl,trivial⟩
 have hRo4:=fun(q:Nat) (v:Value) h=>(hRo3 q v h).ext hE4
 have hgs4:=hgs3.ext hE4
 have hC4:=hC3.trans (.aL hE4)
 refine aH.mk (X:=Nat × List Value × (Nat→Nat)) (fun x=>[(0,.slice o vs.length c),(5,.slice og vs.length cg),(11,.int .i64 x.1)])
  (fun x w'=>Ch M w w'∧x.1≤vs.length∧x.2.1.length=vs.length∧Vec w' w.heap.size 22 1 (.slice og vs.length cg) (gP x.2.1)∧(∀(q:Nat) (v:Value),vs[q]? = some v→Held x.2.2 M w' D 41 4 q v (qU C q (n q)))∧
   (∀(q:Nat) (v:Value),q<x.1→x.2.1[q]? = some v→∃ys,Held x.2.2 M w' D 41 4 q v (qU C q (n q)++ys))) (fun x=>vs.length-x.1) (0,G,own3)
  ⟨hC4,Nat.zero_le _,hGl,hgs4,hRo4,fun q v h=>by simp at h⟩ ⟨rfl,rfl,rfl,trivial⟩ ?_
 clear hgs4 hRo4 hC4 hgsR
 rintro⟨k,G5,own5⟩ w5 ⟨hC5,hk5,hGl5,hgs5,hRo5,hGr5⟩
 simp only at hk5 hGl5 hgs5 hRo5 hGr5 ⊢
 refine Cond.dec (fun g5=>?_) (fun g5=>?_)
 ·have hkl:k<vs.length:=by omega
  obtain⟨v,hv⟩:∃v,vs[k]? = some v:=⟨_,List.getElem?_eq_getElem hkl⟩
  have hnk:=hn k
  refine aG.makeN (n:=64) fT w5.heap.size (Nat.le_refl _) (by omega) (by omega) [.int .u8 0,.int .i64 0,.string ⟨#[]⟩,.slice none 0 0] zc41 fun mv w6 hmv hE6 hmf=>?_
  obtain⟨om,cm,hme,m1,m2,m3,-,-⟩:=hmv.shape
  rw[List.length_replicate]at hme m1
  subst hme
  refine aH.mk (X:=Nat × List (List Value)) (fun x=>[(0,.slice o vs.length c),(5,.slice og vs.length cg),(11,.int .i64 k),(12,.slice om 64 cm),(13,.int .i64 x.1)])
   (fun x w'=>Ext w5 w'∧x.1≤64∧x.2.length=64∧Vec w' w5.heap.size 41 4 (.slice om 64 cm) x.2∧∀y∈x.2,y.length=4∧∀u∈y,u.oneCell'=true) (fun x=>64-x.1) (0,List.replicate 64 [.int .u8 0,.int .i64 0,.string ⟨#[]⟩,.slice none 0 0])
   ⟨hE6,Nat.zero_le _,by simp,hmv,fun y hy=>by
    rw[List.eq_of_mem_replicate hy]
    refine⟨rfl,fun u hu=>?_⟩
    simp only[List.mem_cons,List.not_mem_nil,or_false]at hu
    rcases hu with rfl|rfl|rfl|rfl<;>rfl⟩ ⟨rfl,rfl,rfl,rfl,rfl,trivial⟩ ?_
  rintro⟨i,xs⟩ w7 ⟨hE7,hi7,hxl,hmv7,hone⟩
  simp only at hi7 hxl hmv7 hone ⊢
  refine Cond.dec (fun g7=>?_) (fun g7=>?_)
  ·have hi64:i<64:=by omega
   refine Ar.aM (k+vs.length) (by omega) (by omega) ?_
   refine aA.mk _ (fP (k+vs.length) i _ (by omega) (by omega)) ?_
   rintro v8 w8 ⟨rfl,hE8⟩
   obtain⟨am,ham⟩:∃am,om=some am:=by
    cases om with
    | none=>have:=m3 rfl;omega
    | some am=>exact⟨am,rfl⟩
   subst ham
   refine Idx.mk am rfl (by omega) (by omega) ?_
   refine bA.kR (k:=i) (xK (k+vs.length) i).cells (by kernel_rfl) (hmv7.ext hE8) rfl (by omega) rfl rfl (qE _ _) fun w9 g cs hU hBg howng hv9=>?_
   refine Ar.aM (i+1) (by omega) (by omega) ?_
   refine⟨(i+1,_),⟨(hE7.trans hE8).upd hU hBg,by simp only;omega,by simp only[List.length_set];exact hxl,hv9,fun y hy=>?_⟩,by simp only;omega,rfl,rfl,rfl,rfl,rfl,trivial⟩
   rcases List.mem_or_eq_of_mem_set hy with hy|rfl
   ·exact hone y hy
   ·exact⟨rfl,(qE _ _)⟩
  ·have hi64:i=64:=by omega
   subst hi64
   have hC7:=hC5.trans (.aL hE7)
   obtain⟨a,ha,hca⟩:=hlsR w7 hC7 k v hv
   subst ha
   have hH7:=(hRo5 k v hv).ext hE7
   have hgs7:=hgs5.ext hE7
   refine Idx.mk a rfl (by omega) (by omega) ?_
   refine Load.here (hca.one (k:=0) rfl) ?_
   refine bD.append2 fT D (qU C k (n k)) xs hH7.vec hmv7.sl hone (by rw[dN,hxl];omega) (by rw[dN,hxl];omega) (Nat.le_trans hD hC7.size) (by omega) fun gv8 w8 hv8 ha8=>?_
   have hnew:=hH7.new hv8 ha8 (fun g hg=>hMnew g (Nat.le_trans hC7.size hg))
   have hC8:=hC7.trans (.cO ha8.rel (fun b hb=>(hH7.tag b hb).2))
   have hgs8:Vec w8 w.heap.size 22 1 (.slice og vs.length cg) (gP G5):=by
    refine ha8.rel.vec hgs7 ?_
    rcases iT hgs7 hH7.vec (by decide)with h|h
    ·exact .inl h
    ·exact .inr h
   obtain⟨ogv,cgv,hgve,-,-,-,-,-⟩:=hv8.shape
   obtain⟨ag,hag⟩:∃ag,og=some ag:=by
    cases og with
    | none=>have:=gg3 rfl;omega
    | some ag=>exact⟨ag,rfl⟩
   subst hag
   refine Idx.mk ag rfl (by omega) (by omega) ?_
   rw[hgve]at hnew ⊢
   refine bA.kR (k:=k) [.slice ogv (qU C k (n k)++xs).length cgv] (by kernel_rfl) hgs8 rfl (by rw[bK];omega) rfl rfl (fun u hu=>by rw[List.mem_singleton.1 hu];rfl) fun w9 g cs hU hBg howng hgs9=>?_
   rw[rQ]at hgs9
   have hnes:∀(q:Nat) (u:Value) (us:List (List Value)),Held (gK own5 w7.heap.size k) M w8 D 41 4 q u us→Held (gK own5 w7.heap.size k) M w9 D 41 4 q u us:=fun q u us h=>h.upd hU (fun e=>by
    rcases iT h.vec hgs8 (by decide)with h|h
    ·rw[h]at e;cases e
    ·exact h (by rw[e,howng]))
   refine Ar.aM (k+1) (by omega) (by omega) ?_
   refine⟨(k+1,G5.set k (.slice ogv (qU C k (n k)++xs).length cgv),gK own5 w7.heap.size k),⟨hC8.trans (.bG hU (hMnew g hBg)),by simp only;omega,by simp only[List.length_set];exact hGl5,hgs9,(fun q u hu=>hnes q u _ (((hRo5 q u hu).ext hE7).keep hH7 hv8 (by decide) ha8 (fun e=>by
    subst e
    exact⟨Nat.le_refl _,by rw[dN,yD q (Nat.le_refl _)]⟩))),fun q u hq hu=>?_⟩,by simp only;omega,rfl,rfl,rfl,trivial⟩
   simp only at hq hu
   rw[List.getElem?_set]at hu
   by_cases hqk:k=q
   ·subst hqk
    rw[if_pos rfl,if_pos (by omega)]at hu
    cases hu
    exact⟨xs,hnes k _ _ hnew⟩
   ·rw[if_neg hqk]at hu
    obtain⟨ys,h⟩:=hGr5 q u (by omega) hu
    exact⟨ys,hnes q u _ ((h.ext hE7).keep hH7 hv8 (by decide) ha8 (fun e=>by omega))⟩
 have hkn:k=vs.length:=by omega
 subst hkn
 have hgsR:∀w',Ext w5 w'→∀(k:Nat) (v:Value),G5[k]? = some v→∃a,og=some a∧Cells w' (a.add (k*1)) [v]:=fun w' h k v hv=>(hgs5.ext h).sl.el _ _ _ rfl k _ (dB hv)
 refine aH.mk (X:=Nat) (fun k=>[(0,.slice o vs.length c),(5,.slice og vs.length cg),(14,.int .i64 k)])
  (fun k w'=>Ext w5 w'∧k≤vs.length) (fun k=>vs.length-k) 0 ⟨Ext.refl _,Nat.zero_le _⟩ ⟨rfl,rfl,rfl,trivial⟩ ?_
 rintro k w6 ⟨hE6,hk6⟩
 refine Cond.dec (fun g6=>?_) (fun g6=>?_)
 ·have hkl:k<vs.length:=by omega
  obtain⟨v,hv⟩:∃v,vs[k]? = some v:=⟨_,List.getElem?_eq_getElem hkl⟩
  obtain⟨gv,hgv⟩:∃gv,G5[k]? = some gv:=⟨_,List.getElem?_eq_getElem (by omega)⟩
  have hnk:=hn k
  refine aH.mk (X:=Nat) (fun i=>[(0,.slice o vs.length c),(5,.slice og vs.length cg),(14,.int .i64 k),(15,.int .i64 i)])
   (fun i w'=>Ext w5 w'∧i≤n k) (fun i=>n k-i) 0 ⟨hE6,Nat.zero_le _⟩ ⟨rfl,rfl,rfl,rfl,trivial⟩ ?_
  rintro i w7 ⟨hE7,hi7⟩
  have hHv:=hRo5 k v hv
  obtain⟨ys,hHg⟩:=hGr5 k gv hkl hgv
  obtain⟨ov,cv,hve,v1,v2,v3,v4,-⟩:=hHv.vec.shape
  obtain⟨ox,cx,hxe,x1,x2,x3,x4,-⟩:=hHg.vec.shape
  rw[dN]at hve v1
  rw[List.length_append,dN]at hxe x1
  subst hve hxe
  obtain⟨a,ha,hca⟩:=hlsR w7 (hC5.trans (.aL hE7)) k _ hv
  subst ha
  refine Idx.mk a rfl (by omega) (by omega) ?_
  refine Load.here (hca.one (k:=0) rfl) ?_
  refine Cond.dec (fun g7=>?_) (fun g7=>?_)
  ·have hin:i<n k:=by omega
   have hE7d:Ext w5 w7.drew:=hE7.trans (Ext.drew w7)
   obtain⟨ag,hag,-⟩:=hgsR w7 hE7 k _ hgv
   subst hag
   have hxi:(qU C k (n k)++ys)[i]? = some (C k i):=by rw[List.getElem?_append_left (by rw[dN];exact hin)];exact jE k hin
   refine aQ.mk aB mixed (allT 0 9++[(9,false),(10,false),(11,true),(12,true),(13,true),(14,true),(15,true),(16,true),(17,true),(18,true),(19,true),(20,true),(21,true),(22,false),(23,false),(24,true),(25,true)]) [] (by kernel_rfl) (fun w'=>Ext w7.drew w') (Ext.refl _) ?_
   refine Idx.mk a rfl (by omega) (by omega) ?_
   refine Load.mk (.slice ov (n k) cv) (fun w' hE=>by
    obtain⟨a',e,hx⟩:=hlsR w' (hC5.trans (.aL (hE7d.trans hE))) k _ hv
    cases e
    exact hx.one (k:=0) rfl) ?_
   obtain⟨av,hav,-⟩:=v4 i (C k i) (jE k hin)
   subst hav
   refine Idx.mk av rfl (by omega) (by omega) ?_
   refine Load.mk (.agg (xK k i).cells.toArray) (fun w' hE=>by
    obtain⟨a',e,hx⟩:=v4.ext (hE7d.trans hE) i (C k i) (jE k hin)
    cases e
    rw[hCl]at hx
    exact hx.all' rfl) ?_
   refine aA.mk _ (fP k i _ (by omega) (by omega)) ?_
   rintro v6 w6 ⟨rfl,hE6⟩
   refine Need.mk hE6 ?_
   refine aA.mk _ (iZ (w:=w6) (qR w6 k i (by omega) (by omega)) (qR w6 k i (by omega) (by omega))) ?_
   rintro vc6 w7 ⟨hvc,hE7'⟩
   rw[decide_eq_true rfl]at hvc
   subst hvc
   have hE7:=hE6.trans hE7'
   repeat (first|refine gA ?_|refine gB ?_|refine gC ?_)
   refine Need.mk hE7 ?_
   repeat (first|refine gA ?_|refine gB ?_|refine gC ?_)
   refine Idx.mk ag rfl (by omega) (by omega) ?_
   repeat (first|refine gA ?_|refine gB ?_|refine gC ?_)
   refine Load.mk (.slice ox (n k+ys.length) cx) (fun w' hE=>by
    obtain⟨a',e,hx⟩:=hgsR w' (hE7d.trans hE) k _ hgv
    cases e
    exact hx.one (k:=0) rfl) ?_
   repeat (first|refine gA ?_|refine gB ?_|refine gC ?_)
   obtain⟨ax,hax,-⟩:=x4 i (C k i) hxi
   subst hax
   refine Idx.mk ax rfl (by omega) (by omega) ?_
   repeat (first|refine gA ?_|refine gB ?_|refine gC ?_)
   refine Load.mk (.agg (xK k i).cells.toArray) (fun w' hE=>by
    obtain⟨a',e,hx⟩:=x4.ext (hE7d.trans hE) i (C k i) hxi
    cases e
    rw[hCl]at hx
    exact hx.all' rfl) ?_
   repeat (first|refine gA ?_|refine gB ?_|refine gC ?_)
   refine aA.mk _ (fP k i _ (by omega) (by omega)) ?_
   rintro v8 w8 ⟨rfl,hE8'⟩
   have hE8:=hE7.trans hE8'
   repeat (first|refine gA ?_|refine gB ?_|refine gC ?_)
   refine Need.mk hE8 ?_
   repeat (first|refine gA ?_|refine gB ?_|refine gC ?_)
   refine aA.mk _ (iZ (w:=w8) (qR w8 k i (by omega) (by omega)) (qR w8 k i (by omega) (by omega))) ?_
   rintro vc8 w9 ⟨hvc,hE9'⟩
   rw[decide_eq_true rfl]at hvc
   subst hvc
   have hE9:=hE8.trans hE9'
   repeat (first|refine gA ?_|refine gB ?_|refine gC ?_)
   refine Need.mk hE9 ?_
   repeat (first|refine gA ?_|refine gB ?_|refine gC ?_)
   refine Cond.no ?_
   refine Ar.aM (i+1) (by omega) (by omega) ?_
   exact⟨i+1,⟨hE7d.trans hE9,by omega⟩,by omega,rfl,rfl,rfl,rfl,trivial⟩
  ·refine Ar.aM (k+1) (by omega) (by omega) ?_
   exact⟨k+1,⟨hE7,by omega⟩,by omega,rfl,rfl,rfl,trivial⟩
 ·exact And.intro rfl (hfin _ (hC5.trans (.aL hE6)))
def flatTab:List (Nat × Nat × Nat):=[(91,73,176),(92,74,126),(93,75,177),(94,76,46),(95,77,112),(97,78,180),(98,79,184),(99,80,189),(100,81,193),(101,82,199),(102,83,204),(103,84,209),(104,85,214),(105,86,222),(106,87,227),(108,88,231)]
theorem make_tab(f t e:Nat)(h:(f,t,e)∈flatTab)(w:World):(Instr.makeSlice t (.int .i64 0) (.int .i64 0)).run Tryz.prog w=.ok (.slice (some ⟨w.heap.size,0,none⟩) 0 0) (w.alloc (.cells #[] e)):=by
 simp only[flatTab,List.mem_cons,Prod.mk.injEq,List.not_mem_nil,or_false]at h
 rcases h with ⟨rfl,rfl,rfl⟩|⟨rfl,rfl,rfl⟩|⟨rfl,rfl,rfl⟩|⟨rfl,rfl,rfl⟩|⟨rfl,rfl,rfl⟩|⟨rfl,rfl,rfl⟩|⟨rfl,rfl,rfl⟩|⟨rfl,rfl,rfl⟩|⟨rfl,rfl,rfl⟩|⟨rfl,rfl,rfl⟩|⟨rfl,rfl,rfl⟩|⟨rfl,rfl,rfl⟩|⟨rfl,rfl,rfl⟩|⟨rfl,rfl,rfl⟩|⟨rfl,rfl,rfl⟩|⟨rfl,rfl,rfl⟩
 all_goals kernel_rfl
theorem fD(f t e:Nat)(h:(f,t,e)∈flatTab)(w:World):bV Tryz.prog f #[.slice none 0 0] w (fun v w'=>v=.bool true∧Ext w w'):=by
 have hm:=make_tab f t e h w
 have hE:Ext w (w.alloc (.cells #[] e)):=(show bO w w.heap.size [] e _ from⟨rfl,rfl⟩).ext
 simp only[flatTab,List.mem_cons,Prod.mk.injEq,List.not_mem_nil,or_false]at h
 rcases h with ⟨rfl,rfl,rfl⟩|⟨rfl,rfl,rfl⟩|⟨rfl,rfl,rfl⟩|⟨rfl,rfl,rfl⟩|⟨rfl,rfl,rfl⟩|⟨rfl,rfl,rfl⟩|⟨rfl,rfl,rfl⟩|⟨rfl,rfl,rfl⟩|⟨rfl,rfl,rfl⟩|⟨rfl,rfl,rfl⟩|⟨rfl,rfl,rfl⟩|⟨rfl,rfl,rfl⟩|⟨rfl,rfl,rfl⟩|⟨rfl,rfl,rfl⟩|⟨rfl,rfl,rfl⟩|⟨rfl,rfl,rfl⟩
 refine enter aB Tryz.func91 (aV rfl) rfl rfl rfl ?_;rotate_left
 refine enter aB Tryz.func92 (aV rfl) rfl rfl rfl ?_;rotate_left
 refine enter aB Tryz.func93 (aV rfl) rfl rfl rfl ?_;rotate_left
 refine enter aB Tryz.func94 (aV rfl) rfl rfl rfl ?_;rotate_left
 refine enter aB Tryz.func95 (aV rfl) rfl rfl rfl ?_;rotate_left
 refine enter aB Tryz.func97 (aV rfl) rfl rfl rfl ?_;rotate_left
 refine enter aB Tryz.func98 (aV rfl) rfl rfl rfl ?_;rotate_left
 refine enter aB Tryz.func99 (aV rfl) rfl rfl rfl ?_;rotate_left
 refine enter aB Tryz.func100 (aV rfl) rfl rfl rfl ?_;rotate_left
 refine enter aB Tryz.func101 (aV rfl) rfl rfl rfl ?_;rotate_left
 refine enter aB Tryz.func102 (aV rfl) rfl rfl rfl ?_;rotate_left
 refine enter aB Tryz.func103 (aV rfl) rfl rfl rfl ?_;rotate_left
 refine enter aB Tryz.func104 (aV rfl) rfl rfl rfl ?_;rotate_left
 refine enter aB Tryz.func105 (aV rfl) rfl rfl rfl ?_;rotate_left
 refine enter aB Tryz.func106 (aV rfl) rfl rfl rfl ?_;rotate_left
 refine enter aB Tryz.func108 (aV rfl) rfl rfl rfl ?_;rotate_left
 all_goals
  refine aH.mk (X:=Unit) (fun _=>[(0,.slice none 0 0),(3,.int .i64 0)]) (fun _ w'=>w'=w) (fun _=>0) () rfl ⟨rfl,rfl,trivial⟩ ?_
  rintro _ w1 rfl
  refine Cond.dec (fun g=>absurd g (by decide)) (fun _=>?_)
  refine aG.mk _ _ hm ?_
  generalize w1.alloc _=w2 at hE ⊢
  refine aH.mk (X:=Unit) (fun _=>[(0,.slice none 0 0),(6,.int .i64 0)]) (fun _ w'=>w'=w2) (fun _=>0) () rfl ⟨rfl,rfl,trivial⟩ ?_
  rintro _ w3 rfl
  refine Cond.dec (fun g=>absurd g (by decide)) (fun _=>?_)
  refine aH.mk (X:=Unit) (fun _=>[(0,.slice none 0 0),(9,.int .i64 0)]) (fun _ w'=>w'=w3) (fun _=>0) () rfl ⟨rfl,rfl,trivial⟩ ?_
  rintro _ w4 rfl
  refine Cond.dec (fun g=>absurd g (by decide)) (fun _=>?_)
  refine aH.mk (X:=Unit) (fun _=>[(0,.slice none 0 0),(11,.int .i64 0)]) (fun _ w'=>w'=w4) (fun _=>0) () rfl ⟨rfl,rfl,trivial⟩ ?_
  rintro _ w5 rfl
  refine Cond.dec (fun g=>absurd g (by decide)) (fun _=>?_)
  refine aH.mk (X:=Unit) (fun _=>[(0,.slice none 0 0),(14,.int .i64 0)]) (fun _ w'=>w'=w5) (fun _=>0) () rfl ⟨rfl,rfl,trivial⟩ ?_
  rintro _ w6 rfl
  refine Cond.dec (fun g=>absurd g (by decide)) (fun _=>?_)
  exact And.intro rfl hE
theorem flat91_con(w:World):bV Tryz.prog 91 #[.slice none 0 0] w (fun v w'=>v=.bool true∧Ext w w'):=fD 91 73 176 (by decide) w
theorem flat92_con(w:World):bV Tryz.prog 92 #[.slice none 0 0] w (fun v w'=>v=.bool true∧Ext w w'):=fD 92 74 126 (by decide) w
theorem flat93_con(w:World):bV Tryz.prog 93 #[.slice none 0 0] w (fun v w'=>v=.bool true∧Ext w w'):=fD 93 75 177 (by decide) w
theorem flat94_con(w:World):bV Tryz.prog 94 #[.slice none 0 0] w (fun v w'=>v=.bool true∧Ext w w'):=fD 94 76 46 (by decide) w
theorem flat95_con(w:World):bV Tryz.prog 95 #[.slice none 0 0] w (fun v w'=>v=.bool true∧Ext w w'):=fD 95 77 112 (by decide) w
theorem flat97_con(w:World):bV Tryz.prog 97 #[.slice none 0 0] w (fun v w'=>v=.bool true∧Ext w w'):=fD 97 78 180 (by decide) w
theorem flat98_con(w:World):bV Tryz.prog 98 #[.slice none 0 0] w (fun v w'=>v=.bool true∧Ext w w'):=fD 98 79 184 (by decide) w
theorem flat99_con(w:World):bV Tryz.prog 99 #[.slice none 0 0] w (fun v w'=>v=.bool true∧Ext w w'):=fD 99 80 189 (by decide) w
theorem flat100_con(w:World):bV Tryz.prog 100 #[.slice none 0 0] w (fun v w'=>v=.bool true∧Ext w w'):=fD 100 81 193 (by decide) w
theorem flat101_con(w:World):bV Tryz.prog 101 #[.slice none 0 0] w (fun v w'=>v=.bool true∧Ext w w'):=fD 101 82 199 (by decide) w
theorem flat102_con(w:World):bV Tryz.prog 102 #[.slice none 0 0] w (fun v w'=>v=.bool true∧Ext w w'):=fD 102 83 204 (by decide) w
theorem flat103_con(w:World):bV Tryz.prog 103 #[.slice none 0 0] w (fun v w'=>v=.bool true∧Ext w w'):=fD 103 84 209 (by decide) w
theorem flat104_con(w:World):bV Tryz.prog 104 #[.slice none 0 0] w (fun v w'=>v=.bool true∧Ext w w'):=fD 104 85 214 (by decide) w
theorem flat105_con(w:World):bV Tryz.prog 105 #[.slice none 0 0] w (fun v w'=>v=.bool true∧Ext w w'):=fD 105 86 222 (by decide) w
theorem flat106_con(w:World):bV Tryz.prog 106 #[.slice none 0 0] w (fun v w'=>v=.bool true∧Ext w w'):=fD 106 87 227 (by decide) w
theorem flat108_con(w:World):bV Tryz.prog 108 #[.slice none 0 0] w (fun v w'=>v=.bool true∧Ext w w'):=fD 108 88 231 (by decide) w
def mZ:Value:=.slice none 0 0
def bagC(vn vp:Value):List Value:=[mZ,mZ,mZ,mZ,mZ,vn,mZ,mZ,mZ,mZ,mZ,mZ,mZ,mZ,mZ,mZ,vp,mZ]
theorem run_buildNN(o:Option Addr)(n c:Nat)(w:World):(Instr.buildSlice 44 1 #[(0,.slice o n c)]).run Tryz.prog w=.ok (.slice (some ⟨w.heap.size,0,none⟩) 1 1) (w.alloc (.cells #[.slice o n c] 31)):=by kernel_rfl
theorem run_buildPP(o:Option Addr)(n c:Nat)(w:World):(Instr.buildSlice 29 1 #[(0,.slice o n c)]).run Tryz.prog w=.ok (.slice (some ⟨w.heap.size,0,none⟩) 1 1) (w.alloc (.cells #[.slice o n c] 22)):=by kernel_rfl
theorem yH(L:List Value)(v:Value):gP (L++[v])=gP L++[[v]]:=by simp[gP]
structure Bag(w:World)(D bb:Nat)(VN VP:List Value):Prop where
 ex:∃vn vp,bQ w bb (bagC vn vp) 90∧Vec w D 31 1 vn (gP VN)∧Vec w D 22 1 vp (gP VP)
 ge:D≤bb
theorem Bag.ext{w w':World}{D bb:Nat}{VN VP:List Value}(h:Bag w D bb VN VP)(hE:Ext w w'):Bag w' D bb VN VP:=by
 obtain⟨vn,vp,h1,h2,h3⟩:=h.ex
 exact⟨⟨vn,vp,h1.ext hE,h2.ext hE,h3.ext hE⟩,h.ge⟩
theorem nR{w:World}{b D e sz t:Nat}{cs:List Value}{v:Value}{xs:List (List Value)}(hb:bQ w b cs t)(hv:Vec w D e sz v xs)(hne:t≠e):v.ownBlock≠some b:=fun e1=>by
 obtain⟨-,h2⟩:=hv.own
 rcases h2 with ⟨h2,-⟩|⟨g,c,cur,hg,-,hh,-⟩
 ·rw[h2]at e1;cases e1
 ·rw[hg]at e1
  have e2:some g=some b:=e1
  cases e2
  have hb2:w.heap[b]? = _:=hb
  rw[hh]at hb2
  cases hb2
  exact hne rfl
theorem sQ(bb D:Nat)(VN VP:List Value)(o:Option Addr)(n c:Nat)(w:World)(h:Bag w D bb VN VP)(hl:VN.length≤100000)(hD:D≤w.heap.size) :
  bV Tryz.prog 123 #[.pointer (some ⟨bb,0,none⟩),.slice o n c] w (fun v w'=>Bag w' D bb (VN++[.slice o n c]) VP∧Ch (fun k=>D≤k) w w'):=by
 have hml:maxLen=9223372036854775807:=rfl
 obtain⟨vn,vp,hb,hvn,hvp⟩:=h.ex
 refine enter aB Tryz.func123 (aV rfl) rfl rfl rfl ?_
 refine Load.here (hb.cells.one (k:=5) rfl) ?_
 refine aG.mk _ _ (run_buildNN _ _ _ _) ?_
 obtain⟨w1,hw1⟩:∃w',w'=w.alloc (.cells #[.slice o n c] 31):=⟨_,rfl⟩
 have n1:bO w w.heap.size [.slice o n c] 31 w1:=⟨rfl,hw1⟩
 rw[←hw1]
 have hE1:=n1.ext
 refine bD.append elem44 D (gP VN) [[.slice o n c]] (hvn.ext hE1) (aT n1) (fun y hy=>by
  rw[List.mem_singleton.1 hy]
  exact⟨rfl,fun u hu=>by rw[List.mem_singleton.1 hu];rfl⟩) (by rw[bK,List.length_singleton];omega) (by rw[bK,List.length_singleton];omega) (Nat.le_trans hD hE1.sz) fun vn2 w2 hvn2 har=>?_
 have hb1:=hb.ext hE1
 have hb2:=har.blk hb1 (nR hb1 (hvn.ext hE1) (by decide))
 have hvp2:=har.vec (hvp.ext hE1) (iT (hvp.ext hE1) (hvn.ext hE1) (by decide))
 obtain⟨o2,c2,he2,-,-,-,-,-⟩:=hvn2.shape
 refine bA.store bb 5 _ [vn2] 90 rfl (by rw[he2];rfl) (by kernel_rfl) hb2 (by simp[bagC]) (fun u hu=>by rw[List.mem_singleton.1 hu,he2];rfl) fun w3 hU=>?_
 have hb3:bQ w3 bb (bagC vn2 vp) 90:=hU.blk
 refine And.intro ⟨⟨vn2,vp,hb3,?_,hvp2.upd hU (nR hb2 hvp2 (by decide))⟩,h.ge⟩ ?_
 ·rw[yH]
  exact hvn2.upd hU (nR hb2 hvn2 (by decide))
 ·exact((Ch.aL hE1).trans (.cO har fun b hb=>((hvn.ext hE1).ge hb).1)).trans (.bG hU h.ge)
theorem onePart_con(bb D:Nat)(VN VP:List Value)(r:aR)(o:Option Addr)(n c:Nat)(hr:r.nodes=.slice o n c)(w:World)(h:Bag w D bb VN VP)(hl:VN.length≤100000)(hD:D≤w.heap.size) :
  bV Tryz.prog 90 #[.pointer (some ⟨bb,0,none⟩),.agg r.cells.toArray] w (fun v w'=>Bag w' D bb (VN++[r.nodes]) VP∧Ch (fun k=>D≤k) w w'):=by
 obtain⟨kk,tt,xx,nn⟩:=r
 simp only at hr
 subst hr
 refine enter aB Tryz.func90 (aV rfl) rfl rfl rfl ?_
 refine aG.box [.int .u8 kk,.int .i64 tt,.string xx,.slice o n c] rfl fun b1 w1 n1=>?_
 refine Load.here (n1.blk.cells.one (k:=3) rfl) ?_
 refine aA.mk _ (sQ bb D VN VP o n c w1 (h.ext n1.ext) hl (Nat.le_trans hD n1.ext.sz)) ?_
 rintro v w2 ⟨h2,hC2⟩
 exact And.intro h2 ((Ch.aL n1.ext).trans hC2)
theorem yK(bb D K:Nat)(VN VP:List Value)(vo:Value)(outs:List aR)(ps:List Pt)(w:World)(h:Bag w D bb VN VP)(hl:VN.length+outs.length≤100000)(hl2:VP.length≤100000)(hD:D≤w.heap.size)
  (hO:d9 w K vo outs ps) (hK:∀g,vo.ownBlock=some g→g<D) :
  bV Tryz.prog 53 #[.pointer (some ⟨bb,0,none⟩),vo] w (fun v w'=>Bag w' D bb (VN++outs.map (·.nodes)) (VP++[vo])∧Ch (fun k=>D≤k) w w'):=by
 have hml:maxLen=9223372036854775807:=rfl
 obtain⟨vn,vp,hb,hvn,hvp⟩:=h.ex
 obtain⟨oo,oc,hoe,-,-,-,-,-⟩:=hO.vec.shape
 rw[List.length_map]at hoe
 subst hoe
 refine enter aB Tryz.func53 (aV rfl) rfl rfl rfl ?_
 refine Load.here (hb.cells.one (k:=16) rfl) ?_
 refine aG.mk _ _ (run_buildPP _ _ _ _) ?_
 obtain⟨w1,hw1⟩:∃w',w'=w.alloc (.cells #[.slice oo outs.length oc] 22):=⟨_,rfl⟩
 have n1:bO w w.heap.size [.slice oo outs.length oc] 22 w1:=⟨rfl,hw1⟩
 rw[←hw1]
 have hE1:=n1.ext
 refine bD.append elem29 D (gP VP) [[.slice oo outs.length oc]] (hvp.ext hE1) (aT n1) (fun y hy=>by
  rw[List.mem_singleton.1 hy]
  exact⟨rfl,fun u hu=>by rw[List.mem_singleton.1 hu];rfl⟩) (by rw[bK,List.length_singleton];omega) (by rw[bK,List.length_singleton];omega) (Nat.le_trans hD hE1.sz) fun vp2 w2 hvp2 har=>?_
 have hb1:=hb.ext hE1
 have hb2:=har.blk hb1 (nR hb1 (hvp.ext hE1) (by decide))
 have hvn2:=har.vec (hvn.ext hE1) (iT (hvn.ext hE1) (hvp.ext hE1) (by decide))
 obtain⟨o2,c2,he2,-,-,-,-,-⟩:=hvp2.shape
 refine bA.store bb 16 _ [vp2] 90 rfl (by rw[he2];rfl) (by kernel_rfl) hb2 (by simp[bagC]) (fun u hu=>by rw[List.mem_singleton.1 hu,he2];rfl) fun w3 hU=>?_
 have hb3:bQ w3 bb (bagC vn vp2) 90:=hU.blk
 have hB3:Bag w3 D bb VN (VP++[.slice oo outs.length oc]):=by
  refine⟨⟨vn,vp2,hb3,hvn2.upd hU (nR hb2 hvn2 (by decide)),?_⟩,h.ge⟩
  rw[yH]
  exact hvp2.upd hU (nR hb2 hvp2 (by decide))
 have hC3:Ch (fun k=>D≤k) w w3:=((Ch.aL hE1).trans (.cO har fun b hb=>((hvp.ext hE1).ge hb).1)).trans (.bG hU h.ge)
 refine aH.mk (X:=Nat) (fun i=>[(0,.pointer (some ⟨bb,0,none⟩)),(1,.slice oo outs.length oc),(4,.int .i64 i)])
  (fun i w'=>Ch (fun k=>D≤k) w w'∧i≤outs.length∧Bag w' D bb (VN++(outs.take i).map (·.nodes)) (VP++[.slice oo outs.length oc])) (fun i=>outs.length-i) 0
  ⟨hC3,Nat.zero_le _,by simpa using hB3⟩ ⟨rfl,rfl,rfl,trivial⟩ ?_
 rintro i w4 ⟨hC4,hi,hB4⟩
 refine Cond.dec (fun g1=>?_) (fun g1=>?_)
 ·have hil:i<outs.length:=by omega
  have hv4:=hC4.vec hO.vec (fun g hg hm=>by have:=hK g hg;have hm':D≤g:=hm;omega)
  obtain⟨a,ha,hc⟩:=hv4.sl.el _ _ _ rfl i (outs[i]).cells (by rw[List.getElem?_map,List.getElem?_eq_getElem hil];rfl)
  subst ha
  obtain⟨-,-,hvx,-⟩:=hO.el i outs[i] _ (List.getElem?_eq_getElem hil) (List.getElem?_eq_getElem (by have:=hO.len;omega))
  obtain⟨ox,cx,hxe,-,-,-,-,-⟩:=hvx.shape
  refine Idx.mk a rfl (by omega) (by omega) ?_
  refine Load.here (hc.all' rfl) ?_
  refine aA.mk _ (onePart_con bb D _ _ outs[i] _ _ _ hxe w4 hB4 (by rw[List.length_append,List.length_map,List.length_take];omega) (Nat.le_trans hD hC4.size)) ?_
  rintro v w5 ⟨hB5,hC5⟩
  refine Ar.aM (i+1) (by omega) (by omega) ?_
  refine⟨i+1,⟨hC4.trans hC5,by omega,?_⟩,by omega,rfl,rfl,rfl,trivial⟩
  rw[List.take_succ_eq_append_getElem hil,List.map_append,←List.append_assoc]
  exact hB5
 ·have hin:i=outs.length:=by omega
  subst hin
  rw[List.take_length]at hB4
  exact And.intro hB4 hC4
theorem gG{w w':World}{D e:Nat}{VN:List Value}{n:Nat→Nat}(h:∀(q:Nat) (v:Value),VN[q]? = some v→∃xs,Vec w D e 4 v xs∧xs.length=n q)(hE:Ext w w'):∀(q:Nat) (v:Value),VN[q]? = some v→∃xs,Vec w' D e 4 v xs∧xs.length=n q:=fun q v hv=>by
 obtain⟨xs,hx,hl⟩:=h q v hv
 exact⟨xs,hx.ext hE,hl⟩
set_option maxRecDepth 20000 in
set_option maxHeartbeats 3200000 in
theorem xS(bb D D':Nat)(VN VP:List Value)(nN nP:Nat→Nat)(w:World)(h:Bag w D' bb VN VP)(hD:D≤D')(hDw:D≤w.heap.size)
  (hN:∀(q:Nat) (v:Value),VN[q]? = some v→∃xs,Vec w D 50 4 v xs∧xs.length=nN q) (hapN:ApartL VN) (hNl:VN.length≤1000) (hnN:∀q,nN q≤1000000)
  (hP:∀(q:Nat) (v:Value),VP[q]? = some v→∃xs,Vec w D 41 4 v xs∧xs.length=nP q) (hapP:ApartL VP) (hPl:VP.length≤1000) (hnP:∀q,nP q≤1000000)
  (hNb:∀(q:Nat) (v:Value),VN[q]? = some v→v.ownBlock≠some bb) (hPb:∀(q:Nat) (v:Value),VP[q]? = some v→v.ownBlock≠some bb) :
  bV Tryz.prog 54 #[.pointer (some ⟨bb,0,none⟩)] w (fun v w'=>v=.bool true∧Ch (fun k=>D≤k) w w'):=by
 obtain⟨vn,vp,hb,hvn,hvp⟩:=h.ex
 obtain⟨on,cn,hne,-,-,-,-,-⟩:=hvn.shape
 obtain⟨op,cp,hpe,-,-,-,-,-⟩:=hvp.shape
 rw[bK]at hne hpe
 subst hne hpe
 obtain⟨Mf,hMf⟩:∃Mf:Nat→Prop,Mf=fun k=>(∃(q:Nat) (v:Value),VN[q]? = some v∧v.ownBlock=some k)∨(∃(q:Nat) (v:Value),VP[q]? = some v∧v.ownBlock=some k):=⟨_,rfl⟩
 have hMD:∀k,Mf k→D≤k:=fun k hk=>by
  rw[hMf]at hk
  rcases hk with ⟨q,v,h1,h2⟩|⟨q,v,h1,h2⟩
  ·obtain⟨xs,hx,-⟩:=hN q v h1
   exact(hx.ge h2).1
  ·obtain⟨xs,hx,-⟩:=hP q v h1
   exact(hx.ge h2).1
 have hC:Ch Mf w w:=Ch.refl _ _
 refine enter aB Tryz.func54 (aV rfl) rfl rfl rfl ?_
 repeat (first|refine gA ?_|refine gB ?_|refine gC ?_)
 refine Load.here (hb.cells.one (k:=0) rfl) ?_
 repeat (first|refine gA ?_|refine gB ?_|refine gC ?_)
 refine aA.mk _ (flat91_con _) ?_
 rintro v w91 ⟨rfl,hE91⟩
 have hC:=hC.trans (.aL hE91)
 have hb:=hb.ext hE91
 have hvn:=hvn.ext hE91
 have hvp:=hvp.ext hE91
 have hDw:=Nat.le_trans hDw hE91.sz
 have hN:=gG hN hE91
 have hP:=gG hP hE91
 repeat (first|refine gA ?_|refine gB ?_|refine gC ?_)
 refine Load.here (hb.cells.one (k:=1) rfl) ?_
 repeat (first|refine gA ?_|refine gB ?_|refine gC ?_)
 refine aA.mk _ (flat92_con _) ?_
 rintro v w92 ⟨rfl,hE92⟩
 have hC:=hC.trans (.aL hE92)
 have hb:=hb.ext hE92
 have hvn:=hvn.ext hE92
 have hvp:=hvp.ext hE92
 have hDw:=Nat.le_trans hDw hE92.sz
 have hN:=gG hN hE92
 have hP:=gG hP hE92
 repeat (first|refine gA ?_|refine gB ?_|refine gC ?_)
 refine Load.here (hb.cells.one (k:=2) rfl) ?_
 repeat (first|refine gA ?_|refine gB ?_|refine gC ?_)
 refine aA.mk _ (flat93_con _) ?_
 rintro v w93 ⟨rfl,hE93⟩
 have hC:=hC.trans (.aL hE93)
 have hb:=hb.ext hE93
 have hvn:=hvn.ext hE93
 have hvp:=hvp.ext hE93
 have hDw:=Nat.le_trans hDw hE93.sz
 have hN:=gG hN hE93
 have hP:=gG hP hE93
 repeat (first|refine gA ?_|refine gB ?_|refine gC ?_)
 refine Load.here (hb.cells.one (k:=3) rfl) ?_
 repeat (first|refine gA ?_|refine gB ?_|refine gC ?_)
 refine aA.mk _ (flat94_con _) ?_
 rintro v w94 ⟨rfl,hE94⟩
 have hC:=hC.trans (.aL hE94)
 have hb:=hb.ext hE94
 have hvn:=hvn.ext hE94
 have hvp:=hvp.ext hE94
 have hDw:=Nat.le_trans hDw hE94.sz
 have hN:=gG hN hE94
 have hP:=gG hP hE94
 repeat (first|refine gA ?_|refine gB ?_|refine gC ?_)
 refine Load.here (hb.cells.one (k:=4) rfl) ?_
 repeat (first|refine gA ?_|refine gB ?_|refine gC ?_)
 refine aA.mk _ (flat95_con _) ?_
 rintro v w95 ⟨rfl,hE95⟩
 have hC:=hC.trans (.aL hE95)
 have hb:=hb.ext hE95
 have hvn:=hvn.ext hE95
 have hvp:=hvp.ext hE95
 have hDw:=Nat.le_trans hDw hE95.sz
 have hN:=gG hN hE95
 have hP:=gG hP hE95
 repeat (first|refine gA ?_|refine gB ?_|refine gC ?_)
 refine Load.here (hb.cells.one (k:=5) rfl) ?_
 repeat (first|refine gA ?_|refine gB ?_|refine gC ?_)
 refine aA.mk _ (flat96_con on cn VN nN D D _ (hvn.dJ hD) hN hapN hNl hnN hDw) ?_
 rintro v w96 ⟨rfl,hC96⟩
 have hCm:Ch Mf w w96:=hC.trans (hC96.mono fun k ⟨q,u,h1,h2⟩=>by rw[hMf];exact .inl ⟨q,u,h1,h2⟩)
 have hb:bQ w96 bb (bagC (.slice on VN.length cn) (.slice op VP.length cp)) 90:=hC96.blk hb (fun⟨q,u,h1,h2⟩=>hNb q u h1 h2)
 have hvp:Vec w96 D' 22 1 (.slice op VP.length cp) (gP VP):=hC96.vec hvp (fun g hg ⟨q,u,h1,h2⟩=>by
  obtain⟨xs,hx,-⟩:=hN q u h1
  rcases iT hx hvp (by decide)with h|h
  ·rw[h]at h2;cases h2
  ·exact h (by rw[h2,hg]))
 have hP:∀(q:Nat) (v:Value),VP[q]? = some v→∃xs,Vec w96 D 41 4 v xs∧xs.length=nP q:=fun q v h=>by
  obtain⟨xs,hx,hl⟩:=hP q v h
  refine⟨xs,hC96.vec hx (fun g hg ⟨q',u,h1,h2⟩=>?_),hl⟩
  obtain⟨ys,hy,-⟩:=hN q' u h1
  rcases iT hy hx (by decide)with h|h
  ·rw[h]at h2;cases h2
  ·exact h (by rw[h2,hg])
 have hDw:=Nat.le_trans hDw hC96.size
 have hC:=hCm
 repeat (first|refine gA ?_|refine gB ?_|refine gC ?_)
 refine Load.here (hb.cells.one (k:=6) rfl) ?_
 repeat (first|refine gA ?_|refine gB ?_|refine gC ?_)
 refine aA.mk _ (flat97_con _) ?_
 rintro v w97 ⟨rfl,hE97⟩
 have hC:=hC.trans (.aL hE97)
 have hb:=hb.ext hE97
 have hvp:=hvp.ext hE97
 have hDw:=Nat.le_trans hDw hE97.sz
 have hP:=gG hP hE97
 repeat (first|refine gA ?_|refine gB ?_|refine gC ?_)
 refine Load.here (hb.cells.one (k:=7) rfl) ?_
 repeat (first|refine gA ?_|refine gB ?_|refine gC ?_)
 refine aA.mk _ (flat98_con _) ?_
 rintro v w98 ⟨rfl,hE98⟩
 have hC:=hC.trans (.aL hE98)
 have hb:=hb.ext hE98
 have hvp:=hvp.ext hE98
 have hDw:=Nat.le_trans hDw hE98.sz
 have hP:=gG hP hE98
 repeat (first|refine gA ?_|refine gB ?_|refine gC ?_)
 refine Load.here (hb.cells.one (k:=8) rfl) ?_
 repeat (first|refine gA ?_|refine gB ?_|refine gC ?_)
 refine aA.mk _ (flat99_con _) ?_
 rintro v w99 ⟨rfl,hE99⟩
 have hC:=hC.trans (.aL hE99)
 have hb:=hb.ext hE99
 have hvp:=hvp.ext hE99
 have hDw:=Nat.le_trans hDw hE99.sz
 have hP:=gG hP hE99
 repeat (first|refine gA ?_|refine gB ?_|refine gC ?_)
 refine Load.here (hb.cells.one (k:=9) rfl) ?_
 repeat (first|refine gA ?_|refine gB ?_|refine gC ?_)
 refine aA.mk _ (flat100_con _) ?_
 rintro v w100 ⟨rfl,hE100⟩
 have hC:=hC.trans (.aL hE100)
 have hb:=hb.ext hE100
 have hvp:=hvp.ext hE100
 have hDw:=Nat.le_trans hDw hE100.sz
 have hP:=gG hP hE100
 repeat (first|refine gA ?_|refine gB ?_|refine gC ?_)
 refine Load.here (hb.cells.one (k:=10) rfl) ?_
 repeat (first|refine gA ?_|refine gB ?_|refine gC ?_)
 refine aA.mk _ (flat101_con _) ?_
 rintro v w101 ⟨rfl,hE101⟩
 have hC:=hC.trans (.aL hE101)
 have hb:=hb.ext hE101
 have hvp:=hvp.ext hE101
 have hDw:=Nat.le_trans hDw hE101.sz
 have hP:=gG hP hE101
 repeat (first|refine gA ?_|refine gB ?_|refine gC ?_)
 refine Load.here (hb.cells.one (k:=11) rfl) ?_
 repeat (first|refine gA ?_|refine gB ?_|refine gC ?_)
 refine aA.mk _ (flat102_con _) ?_
 rintro v w102 ⟨rfl,hE102⟩
 have hC:=hC.trans (.aL hE102)
 have hb:=hb.ext hE102
 have hvp:=hvp.ext hE102
 have hDw:=Nat.le_trans hDw hE102.sz
 have hP:=gG hP hE102
 repeat (first|refine gA ?_|refine gB ?_|refine gC ?_)
 refine Load.here (hb.cells.one (k:=12) rfl) ?_
 repeat (first|refine gA ?_|refine gB ?_|refine gC ?_)
 refine aA.mk _ (flat103_con _) ?_
 rintro v w103 ⟨rfl,hE103⟩
 have hC:=hC.trans (.aL hE103)
 have hb:=hb.ext hE103
 have hvp:=hvp.ext hE103
 have hDw:=Nat.le_trans hDw hE103.sz
 have hP:=gG hP hE103
 repeat (first|refine gA ?_|refine gB ?_|refine gC ?_)
 refine Load.here (hb.cells.one (k:=13) rfl) ?_
 repeat (first|refine gA ?_|refine gB ?_|refine gC ?_)
 refine aA.mk _ (flat104_con _) ?_
 rintro v w104 ⟨rfl,hE104⟩
 have hC:=hC.trans (.aL hE104)
 have hb:=hb.ext hE104
 have hvp:=hvp.ext hE104
 have hDw:=Nat.le_trans hDw hE104.sz
 have hP:=gG hP hE104
 repeat (first|refine gA ?_|refine gB ?_|refine gC ?_)
 refine Load.here (hb.cells.one (k:=14) rfl) ?_
 repeat (first|refine gA ?_|refine gB ?_|refine gC ?_)
 refine aA.mk _ (flat105_con _) ?_
 rintro v w105 ⟨rfl,hE105⟩
 have hC:=hC.trans (.aL hE105)
 have hb:=hb.ext hE105
 have hvp:=hvp.ext hE105
 have hDw:=Nat.le_trans hDw hE105.sz
 have hP:=gG hP hE105
 repeat (first|refine gA ?_|refine gB ?_|refine gC ?_)
 refine Load.here (hb.cells.one (k:=15) rfl) ?_
 repeat (first|refine gA ?_|refine gB ?_|refine gC ?_)
 refine aA.mk _ (flat106_con _) ?_
 rintro v w106 ⟨rfl,hE106⟩
 have hC:=hC.trans (.aL hE106)
 have hb:=hb.ext hE106
 have hvp:=hvp.ext hE106
 have hDw:=Nat.le_trans hDw hE106.sz
 have hP:=gG hP hE106
 repeat (first|refine gA ?_|refine gB ?_|refine gC ?_)
 refine Load.here (hb.cells.one (k:=16) rfl) ?_
 repeat (first|refine gA ?_|refine gB ?_|refine gC ?_)
 refine aA.mk _ (flat107_con op cp VP nP D D _ (hvp.dJ hD) hP hapP hPl hnP hDw) ?_
 rintro v w107 ⟨rfl,hC107⟩
 have hC:=hC.trans (hC107.mono fun k ⟨q,u,h1,h2⟩=>by rw[hMf];exact .inr ⟨q,u,h1,h2⟩)
 have hb:bQ w107 bb (bagC (.slice on VN.length cn) (.slice op VP.length cp)) 90:=hC107.blk hb (fun⟨q,u,h1,h2⟩=>hPb q u h1 h2)
 repeat (first|refine gA ?_|refine gB ?_|refine gC ?_)
 refine Load.here (hb.cells.one (k:=17) rfl) ?_
 repeat (first|refine gA ?_|refine gB ?_|refine gC ?_)
 refine aA.mk _ (flat108_con _) ?_
 rintro v w108 ⟨rfl,hE108⟩
 have hC:=hC.trans (.aL hE108)
 have hb:=hb.ext hE108
 exact And.intro rfl (hC.mono hMD)
theorem yC{l:List Pt}{n:Nat}(h:∀p∈l,p.nodes.length≤n)(hl:l.length≤100):∀p∈dA l,p.nodes.length≤100*n:=fun p hp=>by
 unfold dA at hp
 split at hp
 ·obtain⟨L,hL,hpL⟩:=List.mem_flatten.1 hp
  obtain⟨row,hrow,rfl⟩:=List.mem_map.1 hL
  have hm:=pQ hrow
  have hll:=sV hrow
  rw[xA]at hll
  have hrn:∀q∈row,q.nodes.length≤n:=fun q hq=>h q (oI (hm.1 q hq))
  have hn1:n≤100*n:=by omega
  cases row with
  | nil=>cases hpL
  | cons x r=>
    simp only[dP]at hpL
    split at hpL
    ·exact Nat.le_trans (hrn p hpL) hn1
    ·split at hpL
     ·rw[List.mem_singleton.1 hpL]
      exact Nat.le_trans (hrn x List.mem_cons_self) hn1
     ·rw[List.mem_singleton.1 hpL]
      have:=join_len (n:=n) hrn
      exact Nat.le_trans this (Nat.mul_le_mul_right _ (by omega))
 ·cases hp
theorem run_build90(w:World):(Instr.build 90 #[]).run Tryz.prog w=.ok (.agg (bagC mZ mZ).toArray) w:=by kernel_rfl
section
variable {w:World} {D K:Nat} {va vb:Value} {outsA outsB:List aR} {psA psB:List Pt}
theorem two_el(hA:d9 w D va outsA psA)(hB:d9 w K vb outsB psB)(hDK:D≤K)(i:Nat)(v:Value)(hv:(outsA.map (·.nodes)++outsB.map (·.nodes))[i]? = some v) :
  ∃p,(psA++psB)[i]? = some p∧Vec w D 50 4 v (p.nodes.map Nd.cells):=by
 rw[List.getElem?_append,List.length_map]at hv
 rw[List.getElem?_append,←hA.len]
 split at hv
 ·rename_i hi
  rw[List.getElem?_map,List.getElem?_eq_getElem hi]at hv
  cases hv
  have hp:i<psA.length:=by rw[←hA.len];exact hi
  rw[if_pos hi,List.getElem?_eq_getElem hp]
  obtain⟨-,-,h,-⟩:=hA.el i _ _ (List.getElem?_eq_getElem hi) (List.getElem?_eq_getElem hp)
  exact⟨_,rfl,h⟩
 ·rename_i hi
  have hj:i-outsA.length<outsB.length:=by
   have:=(List.getElem?_eq_some_iff.1 hv).1
   simpa using this
  rw[List.getElem?_map,List.getElem?_eq_getElem hj]at hv
  cases hv
  have hp:i-outsA.length<psB.length:=by rw[←hB.len];exact hj
  rw[if_neg hi,List.getElem?_eq_getElem hp]
  obtain⟨-,-,h,-⟩:=hB.el _ _ _ (List.getElem?_eq_getElem hj) (List.getElem?_eq_getElem hp)
  exact⟨_,rfl,h.dJ hDK⟩
theorem two_dif(hA:d9 w D va outsA psA)(hB:d9 w K vb outsB psB)(hK:∀(i:Nat) (r:aR),outsA[i]? = some r→∀g,r.nodes.ownBlock=some g→g<K):ApartL (outsA.map (·.nodes)++outsB.map (·.nodes)):=fun i j u v hu hv hij g hg e=>by
 rw[List.getElem?_append,List.length_map]at hu hv
 split at hu<;>split at hv
 ·rw[List.getElem?_map]at hu hv
  obtain⟨r,hr,rfl⟩:=Option.map_eq_some_iff.1 hu
  obtain⟨q,hq,rfl⟩:=Option.map_eq_some_iff.1 hv
  exact hA.dif i j r q hr hq hij g hg e
 ·rw[List.getElem?_map]at hu hv
  obtain⟨r,hr,rfl⟩:=Option.map_eq_some_iff.1 hu
  obtain⟨q,hq,rfl⟩:=Option.map_eq_some_iff.1 hv
  have:=hK i r hr g hg
  have:=(hB.nlt hq e).1
  omega
 ·rw[List.getElem?_map]at hu hv
  obtain⟨r,hr,rfl⟩:=Option.map_eq_some_iff.1 hu
  obtain⟨q,hq,rfl⟩:=Option.map_eq_some_iff.1 hv
  have:=hK j q hq g e
  have:=(hB.nlt hr hg).1
  omega
 ·rw[List.getElem?_map]at hu hv
  obtain⟨r,hr,rfl⟩:=Option.map_eq_some_iff.1 hu
  obtain⟨q,hq,rfl⟩:=Option.map_eq_some_iff.1 hv
  exact hB.dif _ _ r q hr hq (by omega) g hg e
end
theorem ApartParts_con(w:World)(D K:Nat)(va vb ls:Value)(outsA outsB:List aR)(psA psB:List Pt)(o:Option Addr)(c:Nat)(hls:eO w (.slice o 2 c) 1 (gP [va,vb]))(hA:d9 w D va outsA psA)(hB:d9 w K vb outsB psB)
  (hDK:D≤K) (hKw:K≤w.heap.size) (hK:∀(i:Nat) (r:aR),outsA[i]? = some r→∀g,r.nodes.ownBlock=some g→g<K) (hKa:∀g,va.ownBlock=some g→g<K)
  (hla:psA.length≤100) (hlb:psB.length≤100) (hna:∀p∈psA,p.nodes.length≤1000000) (hnb:∀p∈psB,p.nodes.length≤1000000) :
  bV Tryz.prog 15 #[.slice o 2 c] w (fun v w'=>v=.bool true∧Ch (fun k=>D≤k) w w'):=by
 have hml:maxLen=9223372036854775807:=rfl
 have hlA:=hA.len
 have hlB:=hB.len
 refine enter aB Tryz.func15 (aV rfl) rfl rfl rfl ?_
 refine aG.mk _ _ (run_build90 _) ?_
 refine aG.box (bagC mZ mZ) rfl fun bb w1 n1=>?_
 have hbw:w.heap.size≤bb:=by rw[n1.b_eq];exact Nat.le_refl _
 have hE1:=n1.ext
 have hBag:Bag w1 w.heap.size bb [] []:=⟨⟨mZ,mZ,n1.blk,Vec.nil _ _ _ _,Vec.nil _ _ _ _⟩,hbw⟩
 refine aH.mk (X:=Nat × List Value × List Value) (fun x=>[(0,.slice o 2 c),(3,.pointer (some ⟨bb,0,none⟩)),(4,.int .i64 x.1)])
  (fun x w'=>Ext w w'∧Bag w' w.heap.size bb x.2.1 x.2.2∧((x.1=0∧x.2.1=[]∧x.2.2=[])∨(x.1=1∧x.2.1=outsA.map (·.nodes)∧x.2.2=[va])∨(x.1=2∧x.2.1=outsA.map (·.nodes)++outsB.map (·.nodes)∧x.2.2=[va,vb]))) (fun x=>2-x.1) (0,[],[])
  ⟨hE1,hBag,.inl ⟨rfl,rfl,rfl⟩⟩ ⟨rfl,rfl,rfl,trivial⟩ ?_
 rintro⟨k,VN,VP⟩ w2 ⟨hE2,hBag2,hcase⟩
 simp only at hBag2 hcase ⊢
 refine Cond.dec (fun g1=>?_) (fun g1=>?_)
 ·rcases hcase with ⟨rfl,rfl,rfl⟩|⟨rfl,rfl,rfl⟩|⟨rfl,rfl,rfl⟩
  ·obtain⟨a,ha,hc⟩:=(hls.ext hE2).el _ _ _ rfl 0 [va] rfl
   refine Idx.mk a ha (by omega) (by omega) ?_
   refine Load.here (hc.one (k:=0) rfl) ?_
   refine aA.mk _ (yK bb w.heap.size D _ _ va outsA psA w2 hBag2 (by simp;omega) (by simp) hE2.sz (hA.ext hE2) (fun g hg=>(hA.vec.ge hg).2)) ?_
   rintro v w3 ⟨hB3,hC3⟩
   refine Ar.aM (1) (by omega) (by omega) ?_
   exact⟨(1,outsA.map (·.nodes),[va]),⟨hE2.cZ (hC3.below hE2.sz (fun k hk=>hk)) (Nat.le_refl _),by simpa using hB3,.inr (.inl ⟨rfl,rfl,rfl⟩)⟩,by simp only;omega,rfl,rfl,rfl,trivial⟩
  ·obtain⟨a,ha,hc⟩:=(hls.ext hE2).el _ _ _ rfl 1 [vb] rfl
   refine Idx.mk a ha (by omega) (by omega) ?_
   refine Load.here (hc.one (k:=0) rfl) ?_
   refine aA.mk _ (yK bb w.heap.size K _ _ vb outsB psB w2 hBag2 (by simp;omega) (by simp) hE2.sz (hB.ext hE2) (fun g hg=>(hB.vec.ge hg).2)) ?_
   rintro v w3 ⟨hB3,hC3⟩
   refine Ar.aM (2) (by omega) (by omega) ?_
   exact⟨(2,outsA.map (·.nodes)++outsB.map (·.nodes),[va,vb]),⟨hE2.cZ (hC3.below hE2.sz (fun k hk=>hk)) (Nat.le_refl _),by simpa using hB3,.inr (.inr ⟨rfl,rfl,rfl⟩)⟩,by simp only;omega,rfl,rfl,rfl,trivial⟩
  ·exact absurd g1 (by decide)
 ·rcases hcase with ⟨rfl,rfl,rfl⟩|⟨rfl,rfl,rfl⟩|⟨rfl,rfl,rfl⟩
  ·exact absurd (by decide) g1
  ·exact absurd (by decide) g1
  have hA2:=hA.ext hE2
  have hB2:=hB.ext hE2
  obtain⟨nN,hnN⟩:∃nN:Nat→Nat,nN=fun q=>(((psA++psB)[q]?).map (fun p:Pt=>p.nodes.length)).getD 0:=⟨_,rfl⟩
  obtain⟨nP,hnP⟩:∃nP:Nat→Nat,nP=fun q=>if q=0 then psA.length else psB.length:=⟨_,rfl⟩
  have hps:∀p∈psA++psB,p.nodes.length≤1000000:=fun p hp=>by
   rcases List.mem_append.1 hp with h|h
   ·exact hna p h
   ·exact hnb p h
  refine aA.mk _ (xS bb D w.heap.size _ _ nN nP w2 hBag2 (by omega) (Nat.le_trans (by omega) hE2.sz) (fun q v hq=>?_) (two_dif hA2 hB2 hK) (by simp;omega) (fun q=>?_) (fun q v hq=>?_) (fun i j u v hu hv hij g hg e=>?_) (by simp) (fun q=>?_) (fun q v hq e=>?_) (fun q v hq e=>?_)) ?_
  ·obtain⟨p,hp,hx⟩:=two_el hA2 hB2 hDK q v hq
   exact⟨_,hx,by rw[hnN,List.length_map];simp only;rw[hp];rfl⟩
  ·rw[hnN]
   simp only
   rcases h:(psA++psB)[q]? with _|p
   ·exact Nat.zero_le _
   ·exact hps p (List.mem_of_getElem? h)
  ·match q,hq with
   | 0,hq=>cases hq;exact⟨_,hA2.vec,by rw[List.length_map,hlA,hnP];rfl⟩
   | 1,hq=>cases hq;exact⟨_,hB2.vec.dJ hDK,by rw[List.length_map,hlB,hnP];rfl⟩
   | q+2,hq=>simp at hq
  ·match i,j,hu,hv,hij with
   | 0,0,_,_,hij=>exact hij rfl
   | 1,1,_,_,hij=>exact hij rfl
   | 0,1,hu,hv,_=>
     cases hu;cases hv
     have:=hKa g hg
     have:=(hB.vec.ge e).1
     omega
   | 1,0,hu,hv,_=>
     cases hu;cases hv
     have:=hKa g e
     have:=(hB.vec.ge hg).1
     omega
   | q+2,_,hu,_,_=>simp at hu
   | 0,q+2,_,hv,_=>simp at hv
   | 1,q+2,_,hv,_=>simp at hv
  ·rw[hnP]
   simp only
   split<;>omega
  ·obtain⟨p,hp,hx⟩:=two_el hA hB hDK q v hq
   have:=(hx.ge e).2
   omega
  ·match q,hq with
   | 0,hq=>cases hq;have:=(hA.vec.ge e).2;omega
   | 1,hq=>cases hq;have:=(hB.vec.ge e).2;omega
   | q+2,hq=>simp at hq
  rintro v w3 ⟨rfl,hC3⟩
  exact And.intro rfl ((Ch.aL hE2).trans hC3)
theorem run_buildAB(o o2:Option Addr)(n c n2 c2:Nat)(w:World):(Instr.buildSlice 29 2 #[(0,.slice o n c),(1,.slice o2 n2 c2)]).run Tryz.prog w=.ok (.slice (some ⟨w.heap.size,0,none⟩) 2 2) (w.alloc (.cells #[.slice o n c,.slice o2 n2 c2] 22)):=by kernel_rfl
set_option maxHeartbeats 1600000 in
theorem Merges_con(vl:Value)(l:List Pt)(w:World)(hl:PartsAt w vl l)(hG:jV w) :
  bV Tryz.prog 3 #[vl] w (fun v w'=>v=.bool true∧Ext w w'):=by
 have hml:maxLen=9223372036854775807:=rfl
 have hl0:=hl
 obtain⟨o,c,rfl,h1,h2,h3,-⟩:=hl0.open_
 have hTg:∀p∈l,TgOk p:=fun p hp=>by
  obtain⟨rs,hsl,hpts⟩:=hl.ex
  obtain⟨i,hi,rfl⟩:=List.mem_iff_getElem.1 hp
  exact(hpts.2 i _ _ (List.getElem?_eq_getElem (by rw[hpts.1];exact hi)) (List.getElem?_eq_getElem hi)).wtarget
 have hnil:aJ w (.slice none 0 0) []:=⟨eO.nil _ _,(fun n h=>by cases h),by simp⟩
 refine enter aB Tryz.func3 (aV rfl) rfl rfl rfl ?_
 refine aA.mk _ (great_con (.slice none 0 0) _ [] l w hnil hl) ?_
 rintro v w1 ⟨rfl,hE1⟩
 refine Cond.mk (fun g1=>?_) (fun g1=>?_)
 ·refine aA.mk _ (rF w1 (hG.ext hE1)) ?_
  rintro v w2 ⟨rfl,hE2⟩
  exact And.intro rfl (hE1.trans hE2)
 obtain⟨-,b2,b3⟩:=not_great g1
 have hnl6:∀p∈l,p.nodes.length≤1000000:=fun p hp=>Nat.le_trans (b3 p hp) (by decide)
 refine aA.mk _ (qO _ l w1 (hl.ext hE1) (by omega) hnl6) ?_
 rintro vi w2 ⟨rs,hL,hE2⟩
 have hE02:=hE1.trans hE2
 refine aA.mk _ (p8 vi l w2 (hL.parts (by omega)) (hG.ext hE02) (by omega) hnl6) ?_
 rintro va w3 ⟨outsA,hA,hE3⟩
 have hE03:=hE02.trans hE3
 refine aA.mk _ (p8 vi l w3 ((hL.ext hE3).parts (by omega)) (hG.ext hE03) (by omega) hnl6) ?_
 rintro vb w4 ⟨outsB,hB,hE4⟩
 have hE04:=hE03.trans hE4
 have hE24:=hE3.trans hE4
 have hA4:=hA.ext hE4
 refine aA.mk _ (qM vi _ rs l _ w4 (hL.ext hE24) (hl.ext hE04) (by omega) hnl6) ?_
 rintro v w5 ⟨rfl,hE5⟩
 refine Cond.no ?_
 have hE05:=hE04.trans hE5
 have hE25:=hE24.trans hE5
 have hA5:=hA4.ext hE5
 have hB5:=hB.ext hE5
 refine aA.mk _ (wD vi rs l _ w2.heap.size w5 (hL.ext hE25) (by omega) hnl6 (fun g hg=>?_) (fun i r hr g hg=>?_)) ?_
 ·obtain⟨oi,ci,rfl,hx⟩:=hL.ex
  exact(hx.ge (by rw[oL oi _ l.length];exact hg)).2
 ·have hi:=(List.getElem?_eq_some_iff.1 hr).1
  exact((hL.el i r _ hr (List.getElem?_eq_getElem (by have:=hL.len;omega))).nodes.ge hg).2
 rintro vu w6 hC6
 have hA6:=hA5.ch hC6 (fun k hk=>hk.2)
 have hB6:=hB5.ch hC6 (fun k hk=>by have:=hk.2;have:=hE3.sz;omega)
 have hE06:Ext w w6:=hE05.cZ (hC6.below (B:=w1.heap.size) (by have:=hE25.sz;have:=hE2.sz;omega) (fun k hk=>hk.1)) hE1.sz
 refine aA.mk _ (rMerge_con _ l w6 (hl.ext hE06) (by omega) b3) ?_
 rintro vc w7 ⟨hc,hE7,-⟩
 rw[refMerge_eq hTg]at hc
 have hE07:=hE06.trans hE7
 have hml2:=mergeP_len l
 have hA7:=hA6.ext hE7
 have hB7:=hB6.ext hE7
 refine aA.mk _ (wF (hA7.parts (by omega)) hc) ?_
 rintro v w8 ⟨hv8,hE8⟩
 rw[decide_eq_true rfl]at hv8
 subst hv8
 repeat (first|refine gA ?_|refine gB ?_|refine gC ?_)
 refine aA.mk _ (wF ((hB7.ext hE8).parts (by omega)) (hc.ext hE8)) ?_
 rintro v w9 ⟨hv9,hE9⟩
 rw[decide_eq_true rfl]at hv9
 subst hv9
 repeat (first|refine gA ?_|refine gB ?_|refine gC ?_)
 have hA9:=(hA7.ext hE8).ext hE9
 have hB9:=(hB7.ext hE8).ext hE9
 obtain⟨oa,ca,hae,-,-,-,-,-⟩:=hA9.vec.shape
 obtain⟨ob,cb,hbe,-,-,-,-,-⟩:=hB9.vec.shape
 subst hae hbe
 refine aG.mk _ _ (run_buildAB _ _ _ _ _ _ _) ?_
 obtain⟨wA,hwA⟩:∃w',w'=w9.alloc (.cells #[.slice oa (outsA.map aR.cells).length ca,.slice ob (outsB.map aR.cells).length cb] 22):=⟨_,rfl⟩
 have nA:bO w9 w9.heap.size [.slice oa (outsA.map aR.cells).length ca,.slice ob (outsB.map aR.cells).length cb] 22 wA:=⟨rfl,hwA⟩
 rw[←hwA]
 repeat (first|refine gA ?_|refine gB ?_|refine gC ?_)
 have hE0A:=((hE07.trans hE8).trans hE9).trans nA.ext
 have hsl:=(Vec.wM (B:=0) (xs:=gP [.slice oa (outsA.map aR.cells).length ca,.slice ob (outsB.map aR.cells).length cb]) (sz:=1) nA rfl (fun x hx=>by
  obtain⟨v,-,rfl⟩:=List.mem_map.1 hx
  rfl) (by simp[gP];omega) (Nat.zero_le _)).sl
 refine aA.mk _ (ApartParts_con wA w2.heap.size w3.heap.size _ _ (.slice none 0 0) outsA outsB _ _ (some ⟨w9.heap.size,0,none⟩) 2 hsl (hA9.ext nA.ext) (hB9.ext nA.ext) hE3.sz
  (by have:=hE4.sz;have:=hE5.sz;have:=hC6.size;have:=hE7.sz;have:=hE8.sz;have:=hE9.sz;have:=nA.ext.sz;omega)
  (fun i r hr g hg=>(hA.nlt hr hg).2) (fun g hg=>(hA.vec.ge hg).2) (by omega) (by omega)
  (fun p hp=>Nat.le_trans (yC b3 b2 p hp) (by decide)) (fun p hp=>Nat.le_trans (yC b3 b2 p hp) (by decide))) ?_
 rintro v wB ⟨rfl,hCB⟩
 repeat (first|refine gA ?_|refine gB ?_|refine gC ?_)
 have hE0B:Ext w wB:=hE0A.cZ (hCB.below (B:=w2.heap.size) (by have:=hE3.sz;have:=hE4.sz;have:=hE5.sz;have:=hC6.size;have:=hE7.sz;have:=hE8.sz;have:=hE9.sz;have:=nA.ext.sz;omega) (fun k hk=>hk)) hE02.sz
 refine aA.mk _ (rF wB (hG.ext hE0B)) ?_
 rintro v wC ⟨rfl,hEC⟩
 exact And.intro rfl (hE0B.trans hEC)
end Go.Proofs.YtelffdgcikceaaaGreatDoor
end
section
namespace Go.Proofs.YtelffdgcikceaaaGreatDoor
open Go.V
open Go.RowKit (Below)
set_option maxHeartbeats 3200000 in
theorem rItself_con(r:aR)(p:Pt)(w:World)(h:gM w r p)(hln:p.nodes.length≤1000000000) :
  bV Tryz.prog 124 #[.agg r.cells.toArray] w (fun v w'=>v=.bool (iL p)∧Ext w w'):=by
 obtain⟨pk,pt,px,pn⟩:=p
 obtain⟨kind,target,text,nodes⟩:=r
 have hwk:=h.wkind
 have hwx:=h.wtext
 have e1:=h.kind
 have e2:=h.target
 have e3:=h.text
 have hN:=h.nodes
 simp only at e1 e2 e3 hN hln hwk hwx
 subst e1 e2 e3
 obtain⟨o,c,rfl,-,-,-,-⟩:=hN.open_
 refine enter aB Tryz.func124 (aV rfl) rfl rfl rfl ?_
 refine aG.box [.int .u8 kind,.int .i64 target,.string text,.slice o pn.length c] rfl fun b w1 n1=>?_
 have hB:=n1.blk
 have hE1:=n1.ext
 have hcases:kind<1∨10<kind∨kind=1∨kind=4∨kind=5∨kind=6∨kind=7∨kind=8∨kind=10∨kind=2∨kind=9∨kind=3:=by omega
 have hz:∀x:ByteArray,x=⟨#[]⟩↔x=aP:=fun x=>Iff.rfl
 rcases hcases with hk|hk|rfl|rfl|rfl|rfl|rfl|rfl|rfl|rfl|rfl|rfl
 all_goals repeat' (first
  | refine gA ?_|refine gB ?_|refine gC ?_|refine Cond.yes ?_|refine Cond.no ?_|refine aK.bB (fun _=>?_) (fun g=>absurd (by omega) g)|refine aK.bB (fun g=>absurd g (by omega)) (fun _=>?_)|refine aK.bH (fun _=>?_) (fun g=>absurd g (by omega))|refine aK.bH (fun g=>absurd (by omega) g) (fun _=>?_)|refine aK.bP (fun _=>?_) (fun g=>absurd (by omega) g)|refine aK.bP (fun g=>absurd g (by omega)) (fun _=>?_)|refine aK.bU (fun _=>?_) (fun g=>absurd g (by omega))|refine aK.bU (fun g=>absurd (by omega) g) (fun _=>?_)|refine Cond.dec (fun _=>?_) (fun g=>absurd (by omega) g)|refine Cond.dec (fun g=>absurd g (by omega)) (fun _=>?_)|refine Cond.dH (fun _=>?_) (fun g=>absurd g (by omega))|refine Cond.dH (fun g=>absurd (by omega) g) (fun _=>?_)|refine Load.here (hB.cells.one (k:=0) rfl) ?_|refine Load.here (hB.cells.one (k:=1) rfl) ?_|refine Load.here (hB.cells.one (k:=2) rfl) ?_|refine Load.here (hB.cells.one (k:=3) rfl) ?_
  | (refine aA.mk _ (yN _ w1) ?_;rintro v w2 ⟨hv,hw⟩;have hw':=hw.symm;subst hv hw')
  | (refine aA.mk _ (pO _ pn w1 (hN.ext hE1) hln) ?_;rintro v w3 ⟨va,vr,rfl,-,-,-,hE3⟩;have hB:=hB.ext hE3;have hE1:=hE1.trans hE3)
  | (refine aA.mk _ (sS text _ hwx) ?_;rintro v w4 ⟨hv,hw⟩;have hw':=hw.symm;subst hv hw')
  | (refine aA.mk _ (kH text _ hwx) ?_;rintro v w4 ⟨hv,hw⟩;have hw':=hw.symm;subst hv hw')
  | refine aK.mk (fun _=>?_) (fun _=>?_)|refine Cond.mk (fun _=>?_) (fun _=>?_))
 all_goals refine And.intro ?_ hE1
 all_goals first
  | (simp_all[aC,iL,shapeOf,sW,aP];done)
  | (have h1:¬(1≤kind∧kind≤10):=by omega
     unfold iL
     rw[←Bool.decide_and,decide_eq_false h1]
     rfl)
set_option maxHeartbeats 6400000 in
theorem rTarget_con(v:Value)(t:List Nd)(r:aR)(p:Pt)(w:World)(ht:aJ w v t)(h:gM w r p)(hln:p.nodes.length≤1000000000)(hkind:1≤p.kind∧p.kind≤10)(hkt:∀x∈t,1≤x.kind∧x.kind≤6) :
  bV Tryz.prog 125 #[v,.agg r.cells.toArray] w (fun v w'=>v=.bool (jA t p)∧Ext w w'):=by
 have ht0:=ht
 obtain⟨tO,tc,rfl,t1,t2,t3,t4⟩:=ht0.open_
 have hml:maxLen=9223372036854775807:=rfl
 obtain⟨pk,pt,px,pn⟩:=p
 obtain⟨kind,target,text,nodes⟩:=r
 have hwt:=h.wtarget
 have e1:=h.kind
 have e2:=h.target
 have e3:=h.text
 have hN:=h.nodes
 simp only at e1 e2 e3 hN hln hwt hkind
 subst e1 e2 e3
 obtain⟨o,c,rfl,-,-,-,-⟩:=hN.open_
 refine enter aB Tryz.func125 (aV rfl) rfl rfl rfl ?_
 refine aG.box [.int .u8 kind,.int .i64 target,.string text,.slice o pn.length c] rfl fun b w1 n1=>?_
 have hB:=n1.blk
 have hE1:=n1.ext
 by_cases htr:0≤target∧target<t.length
 rotate_left
 ·have hneg:target<0∨(t.length:Int)≤target:=by omega
  rcases hneg with hg|hg
  ·repeat (first|refine gA ?_|refine gB ?_|refine gC ?_|refine Cond.yes ?_|refine Cond.no ?_|refine aK.bB (fun _=>?_) (fun g=>absurd (by omega) g)|refine aK.bB (fun g=>absurd g (by omega)) (fun _=>?_)|refine aK.bH (fun _=>?_) (fun g=>absurd g (by omega))|refine aK.bH (fun g=>absurd (by omega) g) (fun _=>?_)|refine aK.bP (fun _=>?_) (fun g=>absurd (by omega) g)|refine aK.bP (fun g=>absurd g (by omega)) (fun _=>?_)|refine aK.bU (fun _=>?_) (fun g=>absurd g (by omega))|refine aK.bU (fun g=>absurd (by omega) g) (fun _=>?_)|refine Cond.dec (fun _=>?_) (fun g=>absurd (by omega) g)|refine Cond.dec (fun g=>absurd g (by omega)) (fun _=>?_)|refine Cond.dH (fun _=>?_) (fun g=>absurd g (by omega))|refine Cond.dH (fun g=>absurd (by omega) g) (fun _=>?_)|refine Load.here (hB.cells.one (k:=0) rfl) ?_|refine Load.here (hB.cells.one (k:=1) rfl) ?_|refine Load.here (hB.cells.one (k:=2) rfl) ?_|refine Load.here (hB.cells.one (k:=3) rfl) ?_)
   refine And.intro ?_ hE1
   have h1:¬0≤target:=by omega
   simp[jA,h1,aC]
  ·by_cases hg0:target<0
   ·repeat (first|refine gA ?_|refine gB ?_|refine gC ?_|refine Cond.yes ?_|refine Cond.no ?_|refine aK.bB (fun _=>?_) (fun g=>absurd (by omega) g)|refine aK.bB (fun g=>absurd g (by omega)) (fun _=>?_)|refine aK.bH (fun _=>?_) (fun g=>absurd g (by omega))|refine aK.bH (fun g=>absurd (by omega) g) (fun _=>?_)|refine aK.bP (fun _=>?_) (fun g=>absurd (by omega) g)|refine aK.bP (fun g=>absurd g (by omega)) (fun _=>?_)|refine aK.bU (fun _=>?_) (fun g=>absurd g (by omega))|refine aK.bU (fun g=>absurd (by omega) g) (fun _=>?_)|refine Cond.dec (fun _=>?_) (fun g=>absurd (by omega) g)|refine Cond.dec (fun g=>absurd g (by omega)) (fun _=>?_)|refine Cond.dH (fun _=>?_) (fun g=>absurd g (by omega))|refine Cond.dH (fun g=>absurd (by omega) g) (fun _=>?_)|refine Load.here (hB.cells.one (k:=0) rfl) ?_|refine Load.here (hB.cells.one (k:=1) rfl) ?_|refine Load.here (hB.cells.one (k:=2) rfl) ?_|refine Load.here (hB.cells.one (k:=3) rfl) ?_)
    refine And.intro ?_ hE1
    have h1:¬0≤target:=by omega
    simp[jA,h1,aC]
   ·repeat (first|refine gA ?_|refine gB ?_|refine gC ?_|refine Cond.yes ?_|refine Cond.no ?_|refine aK.bB (fun _=>?_) (fun g=>absurd (by omega) g)|refine aK.bB (fun g=>absurd g (by omega)) (fun _=>?_)|refine aK.bH (fun _=>?_) (fun g=>absurd g (by omega))|refine aK.bH (fun g=>absurd (by omega) g) (fun _=>?_)|refine aK.bP (fun _=>?_) (fun g=>absurd (by omega) g)|refine aK.bP (fun g=>absurd g (by omega)) (fun _=>?_)|refine aK.bU (fun _=>?_) (fun g=>absurd g (by omega))|refine aK.bU (fun g=>absurd (by omega) g) (fun _=>?_)|refine Cond.dec (fun _=>?_) (fun g=>absurd (by omega) g)|refine Cond.dec (fun g=>absurd g (by omega)) (fun _=>?_)|refine Cond.dH (fun _=>?_) (fun g=>absurd g (by omega))|refine Cond.dH (fun g=>absurd (by omega) g) (fun _=>?_)|refine Load.here (hB.cells.one (k:=0) rfl) ?_|refine Load.here (hB.cells.one (k:=1) rfl) ?_|refine Load.here (hB.cells.one (k:=2) rfl) ?_|refine Load.here (hB.cells.one (k:=3) rfl) ?_)
    refine And.intro ?_ hE1
    have h1:¬target<(t.length:Int):=by omega
    simp[jA,h1,aC]
 obtain⟨q,rfl⟩:∃q:Nat,target=q:=⟨target.toNat,by omega⟩
 have hq:q<t.length:=by omega
 repeat (first|refine gA ?_|refine gB ?_|refine gC ?_|refine Cond.yes ?_|refine Cond.no ?_|refine aK.bB (fun _=>?_) (fun g=>absurd (by omega) g)|refine aK.bB (fun g=>absurd g (by omega)) (fun _=>?_)|refine aK.bH (fun _=>?_) (fun g=>absurd g (by omega))|refine aK.bH (fun g=>absurd (by omega) g) (fun _=>?_)|refine aK.bP (fun _=>?_) (fun g=>absurd (by omega) g)|refine aK.bP (fun g=>absurd g (by omega)) (fun _=>?_)|refine aK.bU (fun _=>?_) (fun g=>absurd g (by omega))|refine aK.bU (fun g=>absurd (by omega) g) (fun _=>?_)|refine Cond.dec (fun _=>?_) (fun g=>absurd (by omega) g)|refine Cond.dec (fun g=>absurd g (by omega)) (fun _=>?_)|refine Cond.dH (fun _=>?_) (fun g=>absurd g (by omega))|refine Cond.dH (fun g=>absurd (by omega) g) (fun _=>?_)|refine Load.here (hB.cells.one (k:=0) rfl) ?_|refine Load.here (hB.cells.one (k:=1) rfl) ?_|refine Load.here (hB.cells.one (k:=2) rfl) ?_|refine Load.here (hB.cells.one (k:=3) rfl) ?_)
 obtain⟨a,ha,hc⟩:=t4 w1 hE1 q hq
 subst ha
 refine Idx.mk a rfl (by omega) (by omega) ?_
 refine Load.here (hc.one (k:=0) rfl) ?_
 repeat (first|refine gA ?_|refine gB ?_|refine gC ?_|refine Cond.yes ?_|refine Cond.no ?_|refine aK.bB (fun _=>?_) (fun g=>absurd (by omega) g)|refine aK.bB (fun g=>absurd g (by omega)) (fun _=>?_)|refine aK.bH (fun _=>?_) (fun g=>absurd g (by omega))|refine aK.bH (fun g=>absurd (by omega) g) (fun _=>?_)|refine aK.bP (fun _=>?_) (fun g=>absurd (by omega) g)|refine aK.bP (fun g=>absurd g (by omega)) (fun _=>?_)|refine aK.bU (fun _=>?_) (fun g=>absurd g (by omega))|refine aK.bU (fun g=>absurd (by omega) g) (fun _=>?_)|refine Cond.dec (fun _=>?_) (fun g=>absurd (by omega) g)|refine Cond.dec (fun g=>absurd g (by omega)) (fun _=>?_)|refine Cond.dH (fun _=>?_) (fun g=>absurd g (by omega))|refine Cond.dH (fun g=>absurd (by omega) g) (fun _=>?_)|refine Load.here (hB.cells.one (k:=0) rfl) ?_|refine Load.here (hB.cells.one (k:=1) rfl) ?_|refine Load.here (hB.cells.one (k:=2) rfl) ?_|refine Load.here (hB.cells.one (k:=3) rfl) ?_)
 refine aA.mk _ (pO _ pn w1 (hN.ext hE1) hln) ?_
 rintro v w3 ⟨va,vr,rfl,hva,hvr,-,hE13⟩
 have hE3:=hE1.trans hE13
 have hB3:=(hB.ext hE13).cells
 obtain⟨oa,ca,hae,-,-,-,-,-⟩:=hva.shape
 obtain⟨ob,cb,hbe,-,-,-,-,-⟩:=hvr.shape
 rw[List.length_map]at hae hbe
 subst hae hbe
 have key:jA t ⟨kind,(q:Int),text,pn⟩=(wJ ⟨kind,(q:Int),text,pn⟩ (t[q]).kind&&tH kind (t[q]).kind):=by
  have h1:nd t (q:Int)=t[q]:=by simp[nd,hq]
  have h2:(q:Int)<t.length:=by omega
  simp[jA,h1,h2]
 have hks:(t[q]).kind=1∨(t[q]).kind=2∨(t[q]).kind=3∨(t[q]).kind=4∨(t[q]).kind=5∨(t[q]).kind=6:=by
  have:=hkt _ (List.getElem_mem hq)
  omega
 have hcases:kind=1∨kind=2∨kind=3∨kind=4∨kind=5∨kind=6∨kind=7∨kind=8∨kind=9∨kind=10:=by omega
 rw[key]
 rcases hcases with rfl|rfl|rfl|rfl|rfl|rfl|rfl|rfl|rfl|rfl<;>rcases hks with hk|hk|hk|hk|hk|hk
 all_goals (rw[hk];generalize hb:tH _ _=bt;cases bt)
 all_goals try (exfalso;revert hb;decide)
 all_goals repeat' (first
  | refine gA ?_|refine gB ?_|refine gC ?_|refine Cond.yes ?_|refine Cond.no ?_|refine aK.bB (fun _=>?_) (fun g=>absurd (by omega) g)|refine aK.bB (fun g=>absurd g (by omega)) (fun _=>?_)|refine aK.bH (fun _=>?_) (fun g=>absurd g (by omega))|refine aK.bH (fun g=>absurd (by omega) g) (fun _=>?_)|refine aK.bP (fun _=>?_) (fun g=>absurd (by omega) g)|refine aK.bP (fun g=>absurd g (by omega)) (fun _=>?_)|refine aK.bU (fun _=>?_) (fun g=>absurd g (by omega))|refine aK.bU (fun g=>absurd (by omega) g) (fun _=>?_)|refine Cond.dec (fun _=>?_) (fun g=>absurd (by omega) g)|refine Cond.dec (fun g=>absurd g (by omega)) (fun _=>?_)|refine Cond.dH (fun _=>?_) (fun g=>absurd g (by omega))|refine Cond.dH (fun g=>absurd (by omega) g) (fun _=>?_)|refine Load.here (hB3.one (k:=0) rfl) ?_|refine Load.here (hB3.one (k:=1) rfl) ?_|refine Load.here (hB3.one (k:=2) rfl) ?_|refine Load.here (hB3.one (k:=3) rfl) ?_
  | refine aK.mk (fun _=>?_) (fun _=>?_)|refine Cond.mk (fun _=>?_) (fun _=>?_))
 all_goals refine And.intro ?_ hE3
 all_goals simp_all[wJ,xB,aC]
 all_goals omega
theorem rBecomes_con(v:Value)(t:List Nd)(r:aR)(p:Pt)(w:World)(ht:aJ w v t)(h:gM w r p)(h0:0≤p.target)(h1:p.target<t.length) :
  bV Tryz.prog 126 #[v,.agg r.cells.toArray] w (fun v w'=>v=.bool (dM (nd t p.target) p)∧Ext w w'):=by
 have ht0:=ht
 obtain⟨tO,tc,rfl,t1,t2,t3,t4⟩:=ht0.open_
 have hml:maxLen=9223372036854775807:=rfl
 obtain⟨pk,pt,px,pn⟩:=p
 obtain⟨kind,target,text,nodes⟩:=r
 have e1:=h.kind
 have e2:=h.target
 have e3:=h.text
 have hN:=h.nodes
 have hwx:=h.wtext
 simp only at e1 e2 e3 hN h0 h1 hwx
 subst e1 e2 e3
 obtain⟨o,c,rfl,-,-,-,-⟩:=hN.open_
 obtain⟨q,rfl⟩:∃q:Nat,target=q:=⟨target.toNat,by omega⟩
 have hq:q<t.length:=by omega
 have hnq:nd t (q:Int)=t[q]:=by simp[nd,hq]
 have hwf:=ht.wf _ (List.getElem_mem hq)
 simp only[hnq]
 refine enter aB Tryz.func126 (aV rfl) rfl rfl rfl ?_
 refine aG.box [.int .u8 kind,.int .i64 q,.string text,.slice o pn.length c] rfl fun b w1 n1=>?_
 have hB:=n1.blk
 have hE1:=n1.ext
 refine Load.here (hB.cells.one (k:=1) rfl) ?_
 obtain⟨a,ha,hc⟩:=t4 w1 hE1 q hq
 subst ha
 refine Idx.mk a rfl (by omega) (by omega) ?_
 refine Load.here (hc.all' rfl) ?_
 generalize t[q]=n at *
 obtain⟨nk,nn,nv,np⟩:=n
 have wk:=hwf.kind
 have wn:=hwf.name
 have wv:=hwf.value
 simp only at wk wn wv
 refine aG.alloc _ [.int .u8 0,.string ⟨#[]⟩,.string ⟨#[]⟩,.int .i64 0] mU rfl fun b5 w2 n2=>?_
 refine bA.store b5 0 _ (Nd.cells ⟨nk,nn,nv,np⟩) 50 rfl rfl (by kernel_rfl) n2.blk (by simp[Nd.cells]) (Nd.cells_one _) fun w3 hU=>?_
 have n3:=n2.upd hU
 have hB5:bQ w3 b5 [.int .u8 nk,.string nn,.string nv,.int .i64 np] 50:=n3.blk
 have hE3:=hE1.trans n3.ext
 have hB3:=hB.ext n3.ext
 have hb5w:w.heap.size≤b5:=by rw[n2.b_eq];exact hE1.sz
 refine Load.here (hB3.cells.one (k:=0) rfl) ?_
 refine Cond.dec (fun g1=>?_) (fun g1=>?_)
 ·subst g1
  have hk34:nk=3∨nk=4∨¬(nk=3∨nk=4):=by omega
  rcases hk34 with g2|g2|g2
  ·repeat' (first
    | refine gA ?_|refine gB ?_|refine gC ?_|refine Cond.yes ?_|refine Cond.no ?_|refine aK.bB (fun _=>?_) (fun g=>absurd (by omega) g)|refine aK.bB (fun g=>absurd g (by omega)) (fun _=>?_)|refine aK.bH (fun _=>?_) (fun g=>absurd g (by omega))|refine aK.bH (fun g=>absurd (by omega) g) (fun _=>?_)|refine aK.bP (fun _=>?_) (fun g=>absurd (by omega) g)|refine aK.bP (fun g=>absurd g (by omega)) (fun _=>?_)|refine aK.bU (fun _=>?_) (fun g=>absurd g (by omega))|refine aK.bU (fun g=>absurd (by omega) g) (fun _=>?_)|refine Cond.dec (fun _=>?_) (fun g=>absurd (by omega) g)|refine Cond.dec (fun g=>absurd g (by omega)) (fun _=>?_)|refine Cond.dH (fun _=>?_) (fun g=>absurd g (by omega))|refine Cond.dH (fun g=>absurd (by omega) g) (fun _=>?_)|refine Load.here (hB5.cells.one (k:=0) rfl) ?_|refine Load.here (hB5.cells.one (k:=1) rfl) ?_|refine Load.here (hB5.cells.one (k:=2) rfl) ?_|refine Load.here (hB5.cells.one (k:=3) rfl) ?_|refine Load.here (hB3.cells.one (k:=0) rfl) ?_|refine Load.here (hB3.cells.one (k:=1) rfl) ?_|refine Load.here (hB3.cells.one (k:=2) rfl) ?_|refine Load.here (hB3.cells.one (k:=3) rfl) ?_
    | (refine aA.mk _ (sS text _ hwx) ?_;rintro v w4 ⟨hv,hw⟩;have hw':=hw.symm;subst hv hw'))
   refine And.intro ?_ hE3
   simp[dM,g2,aC]
  ·repeat' (first
    | refine gA ?_|refine gB ?_|refine gC ?_|refine Cond.yes ?_|refine Cond.no ?_|refine aK.bB (fun _=>?_) (fun g=>absurd (by omega) g)|refine aK.bB (fun g=>absurd g (by omega)) (fun _=>?_)|refine aK.bH (fun _=>?_) (fun g=>absurd g (by omega))|refine aK.bH (fun g=>absurd (by omega) g) (fun _=>?_)|refine aK.bP (fun _=>?_) (fun g=>absurd (by omega) g)|refine aK.bP (fun g=>absurd g (by omega)) (fun _=>?_)|refine aK.bU (fun _=>?_) (fun g=>absurd g (by omega))|refine aK.bU (fun g=>absurd (by omega) g) (fun _=>?_)|refine Cond.dec (fun _=>?_) (fun g=>absurd (by omega) g)|refine Cond.dec (fun g=>absurd g (by omega)) (fun _=>?_)|refine Cond.dH (fun _=>?_) (fun g=>absurd g (by omega))|refine Cond.dH (fun g=>absurd (by omega) g) (fun _=>?_)|refine Load.here (hB5.cells.one (k:=0) rfl) ?_|refine Load.here (hB5.cells.one (k:=1) rfl) ?_|refine Load.here (hB5.cells.one (k:=2) rfl) ?_|refine Load.here (hB5.cells.one (k:=3) rfl) ?_|refine Load.here (hB3.cells.one (k:=0) rfl) ?_|refine Load.here (hB3.cells.one (k:=1) rfl) ?_|refine Load.here (hB3.cells.one (k:=2) rfl) ?_|refine Load.here (hB3.cells.one (k:=3) rfl) ?_
    | (refine aA.mk _ (sS text _ hwx) ?_;rintro v w4 ⟨hv,hw⟩;have hw':=hw.symm;subst hv hw'))
   refine And.intro ?_ hE3
   simp[dM,g2,aC]
  ·repeat' (first
    | refine gA ?_|refine gB ?_|refine gC ?_|refine Cond.yes ?_|refine Cond.no ?_|refine aK.bB (fun _=>?_) (fun g=>absurd (by omega) g)|refine aK.bB (fun g=>absurd g (by omega)) (fun _=>?_)|refine aK.bH (fun _=>?_) (fun g=>absurd g (by omega))|refine aK.bH (fun g=>absurd (by omega) g) (fun _=>?_)|refine aK.bP (fun _=>?_) (fun g=>absurd (by omega) g)|refine aK.bP (fun g=>absurd g (by omega)) (fun _=>?_)|refine aK.bU (fun _=>?_) (fun g=>absurd g (by omega))|refine aK.bU (fun g=>absurd (by omega) g) (fun _=>?_)|refine Cond.dec (fun _=>?_) (fun g=>absurd (by omega) g)|refine Cond.dec (fun g=>absurd g (by omega)) (fun _=>?_)|refine Cond.dH (fun _=>?_) (fun g=>absurd g (by omega))|refine Cond.dH (fun g=>absurd (by omega) g) (fun _=>?_)|refine Load.here (hB5.cells.one (k:=0) rfl) ?_|refine Load.here (hB5.cells.one (k:=1) rfl) ?_|refine Load.here (hB5.cells.one (k:=2) rfl) ?_|refine Load.here (hB5.cells.one (k:=3) rfl) ?_|refine Load.here (hB3.cells.one (k:=0) rfl) ?_|refine Load.here (hB3.cells.one (k:=1) rfl) ?_|refine Load.here (hB3.cells.one (k:=2) rfl) ?_|refine Load.here (hB3.cells.one (k:=3) rfl) ?_)
   refine bA.store b5 2 _ [.string text] 50 rfl rfl (by kernel_rfl) hB5 (by simp) (fun u hu=>by rw[List.mem_singleton.1 hu];rfl) fun w4 hU4=>?_
   have hB6:bQ w4 b5 [.int .u8 nk,.string nn,.string text,.int .i64 np] 50:=hU4.blk
   refine bA.store b5 3 _ [.int .i64 (-1)] 50 rfl rfl (by kernel_rfl) hB6 (by simp) (fun u hu=>by rw[List.mem_singleton.1 hu];rfl) fun w5 hU5=>?_
   have hB7:bQ w5 b5 (Nd.cells ⟨nk,nn,text,-1⟩) 50:=hU5.blk
   have hE5:=(hE3.upd hU4 hb5w).upd hU5 hb5w
   refine Load.here (hB7.cells.all' rfl) ?_
   refine aG.mk _ _ (aY _ _ _ _ _) ?_
   obtain⟨w6,hw6⟩:∃w',w'=w5.alloc (.cells (Nd.cells ⟨nk,nn,text,-1⟩).toArray 50):=⟨_,rfl⟩
   have n6:bO w5 w5.heap.size (Nd.cells ⟨nk,nn,text,-1⟩) 50 w6:=⟨rfl,hw6⟩
   refine(show _ from ?_:aA _ _ _ w6 _) |> fun h=>by rw[hw6]at h;exact h
   refine aA.mk _ (qV _ [⟨nk,nn,text,-1⟩] w6 ⟨aT n6,fun x hx=>by rw[List.mem_singleton.1 hx];exact⟨wk,by simp,wn,hwx⟩,by simp⟩) ?_
   rintro v w7 ⟨rfl,hE7⟩
   refine And.intro ?_ ((hE5.trans n6.ext).trans hE7)
   rw[rG]
   have h3:¬nk=3:=by omega
   have h4:¬nk=4:=by omega
   simp[dM,h3,h4,aC,fragB,withParent]<;>rfl
 ·have hk36:(kind=3∧nk=6)∨(kind=3∧¬nk=6)∨¬kind=3:=by omega
  rcases hk36 with ⟨g2,g3⟩|⟨g2,g3⟩|g2
  ·subst g2
   repeat' (first
    | refine gA ?_|refine gB ?_|refine gC ?_|refine Cond.yes ?_|refine Cond.no ?_|refine aK.bB (fun _=>?_) (fun g=>absurd (by omega) g)|refine aK.bB (fun g=>absurd g (by omega)) (fun _=>?_)|refine aK.bH (fun _=>?_) (fun g=>absurd g (by omega))|refine aK.bH (fun g=>absurd (by omega) g) (fun _=>?_)|refine aK.bP (fun _=>?_) (fun g=>absurd (by omega) g)|refine aK.bP (fun g=>absurd g (by omega)) (fun _=>?_)|refine aK.bU (fun _=>?_) (fun g=>absurd g (by omega))|refine aK.bU (fun g=>absurd (by omega) g) (fun _=>?_)|refine Cond.dec (fun _=>?_) (fun g=>absurd (by omega) g)|refine Cond.dec (fun g=>absurd g (by omega)) (fun _=>?_)|refine Cond.dH (fun _=>?_) (fun g=>absurd g (by omega))|refine Cond.dH (fun g=>absurd (by omega) g) (fun _=>?_)|refine Load.here (hB5.cells.one (k:=0) rfl) ?_|refine Load.here (hB5.cells.one (k:=1) rfl) ?_|refine Load.here (hB5.cells.one (k:=2) rfl) ?_|refine Load.here (hB5.cells.one (k:=3) rfl) ?_|refine Load.here (hB3.cells.one (k:=0) rfl) ?_|refine Load.here (hB3.cells.one (k:=1) rfl) ?_|refine Load.here (hB3.cells.one (k:=2) rfl) ?_|refine Load.here (hB3.cells.one (k:=3) rfl) ?_)
   refine bA.store b5 1 _ [.string text] 50 rfl rfl (by kernel_rfl) hB5 (by simp) (fun u hu=>by rw[List.mem_singleton.1 hu];rfl) fun w4 hU4=>?_
   have hB6:bQ w4 b5 [.int .u8 nk,.string text,.string nv,.int .i64 np] 50:=hU4.blk
   refine bA.store b5 3 _ [.int .i64 (-1)] 50 rfl rfl (by kernel_rfl) hB6 (by simp) (fun u hu=>by rw[List.mem_singleton.1 hu];rfl) fun w5 hU5=>?_
   have hB7:bQ w5 b5 (Nd.cells ⟨nk,text,nv,-1⟩) 50:=hU5.blk
   have hE5:=(hE3.upd hU4 hb5w).upd hU5 hb5w
   refine Load.here (hB7.cells.all' rfl) ?_
   refine aG.mk _ _ (aY _ _ _ _ _) ?_
   obtain⟨w6,hw6⟩:∃w',w'=w5.alloc (.cells (Nd.cells ⟨nk,text,nv,-1⟩).toArray 50):=⟨_,rfl⟩
   have n6:bO w5 w5.heap.size (Nd.cells ⟨nk,text,nv,-1⟩) 50 w6:=⟨rfl,hw6⟩
   refine(show _ from ?_:aA _ _ _ w6 _) |> fun h=>by rw[hw6]at h;exact h
   refine aA.mk _ (qV _ [⟨nk,text,nv,-1⟩] w6 ⟨aT n6,fun x hx=>by rw[List.mem_singleton.1 hx];exact⟨wk,by simp,hwx,wv⟩,by simp⟩) ?_
   rintro v w7 ⟨rfl,hE7⟩
   refine And.intro ?_ ((hE5.trans n6.ext).trans hE7)
   rw[rG]
   simp[dM,g3,aC,fragB,withParent]
  ·subst g2
   repeat' (first
    | refine gA ?_|refine gB ?_|refine gC ?_|refine Cond.yes ?_|refine Cond.no ?_|refine aK.bB (fun _=>?_) (fun g=>absurd (by omega) g)|refine aK.bB (fun g=>absurd g (by omega)) (fun _=>?_)|refine aK.bH (fun _=>?_) (fun g=>absurd g (by omega))|refine aK.bH (fun g=>absurd (by omega) g) (fun _=>?_)|refine aK.bP (fun _=>?_) (fun g=>absurd (by omega) g)|refine aK.bP (fun g=>absurd g (by omega)) (fun _=>?_)|refine aK.bU (fun _=>?_) (fun g=>absurd g (by omega))|refine aK.bU (fun g=>absurd (by omega) g) (fun _=>?_)|refine Cond.dec (fun _=>?_) (fun g=>absurd (by omega) g)|refine Cond.dec (fun g=>absurd g (by omega)) (fun _=>?_)|refine Cond.dH (fun _=>?_) (fun g=>absurd g (by omega))|refine Cond.dH (fun g=>absurd (by omega) g) (fun _=>?_)|refine Load.here (hB5.cells.one (k:=0) rfl) ?_|refine Load.here (hB5.cells.one (k:=1) rfl) ?_|refine Load.here (hB5.cells.one (k:=2) rfl) ?_|refine Load.here (hB5.cells.one (k:=3) rfl) ?_|refine Load.here (hB3.cells.one (k:=0) rfl) ?_|refine Load.here (hB3.cells.one (k:=1) rfl) ?_|refine Load.here (hB3.cells.one (k:=2) rfl) ?_|refine Load.here (hB3.cells.one (k:=3) rfl) ?_)
   refine And.intro ?_ hE3
   simp[dM,g3,aC]
  ·repeat' (first
    | refine gA ?_|refine gB ?_|refine gC ?_|refine Cond.yes ?_|refine Cond.no ?_|refine aK.bB (fun _=>?_) (fun g=>absurd (by omega) g)|refine aK.bB (fun g=>absurd g (by omega)) (fun _=>?_)|refine aK.bH (fun _=>?_) (fun g=>absurd g (by omega))|refine aK.bH (fun g=>absurd (by omega) g) (fun _=>?_)|refine aK.bP (fun _=>?_) (fun g=>absurd (by omega) g)|refine aK.bP (fun g=>absurd g (by omega)) (fun _=>?_)|refine aK.bU (fun _=>?_) (fun g=>absurd g (by omega))|refine aK.bU (fun g=>absurd (by omega) g) (fun _=>?_)|refine Cond.dec (fun _=>?_) (fun g=>absurd (by omega) g)|refine Cond.dec (fun g=>absurd g (by omega)) (fun _=>?_)|refine Cond.dH (fun _=>?_) (fun g=>absurd g (by omega))|refine Cond.dH (fun g=>absurd (by omega) g) (fun _=>?_)|refine Load.here (hB5.cells.one (k:=0) rfl) ?_|refine Load.here (hB5.cells.one (k:=1) rfl) ?_|refine Load.here (hB5.cells.one (k:=2) rfl) ?_|refine Load.here (hB5.cells.one (k:=3) rfl) ?_|refine Load.here (hB3.cells.one (k:=0) rfl) ?_|refine Load.here (hB3.cells.one (k:=1) rfl) ?_|refine Load.here (hB3.cells.one (k:=2) rfl) ?_|refine Load.here (hB3.cells.one (k:=3) rfl) ?_)
   refine And.intro ?_ hE3
   simp[dM,g1,g2,aC]
def clashR(a b:Pt):Bool:=decide (a.target=b.target∧a.kind=b.kind∧(a.kind=8∨a.kind=2∨a.kind=9∨a.kind=3))
theorem rClash_con(ra rb:aR)(a b:Pt)(w0 w:World)(ha:gM w0 ra a)(hb:gM w0 rb b):bV Tryz.prog 127 #[.agg ra.cells.toArray,.agg rb.cells.toArray] w (fun v w'=>v=.bool (clashR a b)∧Ext w w'):=by
 obtain⟨ka,ta,xa,na⟩:=ra
 obtain⟨kb,tb,xb,nb⟩:=rb
 obtain⟨ka',ta',xa',na'⟩:=a
 obtain⟨kb',tb',xb',nb'⟩:=b
 obtain⟨rfl,rfl,rfl,hna,_,_,_⟩:=ha
 obtain⟨rfl,rfl,rfl,hnb,_,_,_⟩:=hb
 obtain⟨oa,la,ca,rfl⟩:∃o l c,na=.slice o l c:=by obtain⟨o,c,e,-⟩:=hna.open_;exact⟨_,_,_,e⟩
 obtain⟨ob,lb,cb,rfl⟩:∃o l c,nb=.slice o l c:=by obtain⟨o,c,e,-⟩:=hnb.open_;exact⟨_,_,_,e⟩
 refine enter aB Tryz.func127 (aV rfl) rfl rfl rfl ?_
 refine aG.box [.int .u8 ka,.int .i64 ta,.string xa,.slice oa la ca] rfl fun b1 w1 n1=>?_
 refine aG.box [.int .u8 kb,.int .i64 tb,.string xb,.slice ob lb cb] rfl fun b2 w2 n2=>?_
 have hE2:=n1.ext.trans n2.ext
 have hB1:=n1.blk.ext n2.ext
 have hB2:=n2.blk
 repeat' (first
  | refine gA ?_|refine gB ?_|refine gC ?_|refine Cond.yes ?_|refine Cond.no ?_|refine aK.bB (fun _=>?_) (fun g=>absurd (by omega) g)|refine aK.bB (fun g=>absurd g (by omega)) (fun _=>?_)|refine aK.bH (fun _=>?_) (fun g=>absurd g (by omega))|refine aK.bH (fun g=>absurd (by omega) g) (fun _=>?_)|refine aK.bP (fun _=>?_) (fun g=>absurd (by omega) g)|refine aK.bP (fun g=>absurd g (by omega)) (fun _=>?_)|refine aK.bU (fun _=>?_) (fun g=>absurd g (by omega))|refine aK.bU (fun g=>absurd (by omega) g) (fun _=>?_)|refine Cond.dec (fun _=>?_) (fun g=>absurd (by omega) g)|refine Cond.dec (fun g=>absurd g (by omega)) (fun _=>?_)|refine Cond.dH (fun _=>?_) (fun g=>absurd g (by omega))|refine Cond.dH (fun g=>absurd (by omega) g) (fun _=>?_)|refine Load.here (hB1.cells.one (k:=0) rfl) ?_|refine Load.here (hB1.cells.one (k:=1) rfl) ?_|refine Load.here (hB1.cells.one (k:=2) rfl) ?_|refine Load.here (hB1.cells.one (k:=3) rfl) ?_|refine Load.here (hB2.cells.one (k:=0) rfl) ?_|refine Load.here (hB2.cells.one (k:=1) rfl) ?_|refine Load.here (hB2.cells.one (k:=2) rfl) ?_|refine Load.here (hB2.cells.one (k:=3) rfl) ?_
  | refine aK.mk (fun _=>?_) (fun _=>?_)|refine Cond.mk (fun _=>?_) (fun _=>?_))
 all_goals refine And.intro ?_ hE2
 all_goals simp_all[clashR,aC]
theorem wI{t:List Nd}{a:List Pt}(h:bY t a=0)(p:Pt)(b:List Pt):bY t (a++p::b)=if bZ t p≠0 then bZ t p else bY t b:=by
 induction a with
 | nil=>rfl
 | cons x r ih=>
   unfold bY at h
   split at h
   ·rename_i g;exact absurd h g
   ·rename_i g
    rw[List.cons_append]
    show(if bZ t x≠0 then bZ t x else bY t (r++p::b))=_
    rw[if_neg g]
    exact ih h
theorem onceF_app(s a b:List Pt):pG s (a++b)=(pG s a&&pG (s++a) b):=by
 induction a generalizing s with
 | nil=>simp[pG]
 | cons x r ih=>
   simp only[List.cons_append,pG]
   rw[ih,List.append_assoc,Bool.and_assoc]
   rfl
theorem onceB_take{l:List Pt}{i:Nat}(hi:i<l.length):kY (l.take (i+1))=(kY (l.take i)&&!((shapeOf l[i].kind).once&&decide (0<mE (l.take i) l[i].kind l[i].target))):=by
 unfold kY
 rw[List.take_succ_eq_append_getElem hi,onceF_app]
 simp[pG]
theorem onceB_bad{l:List Pt}{i:Nat}(h:kY (l.take i)=false):kY l=false:=by
 unfold kY at h ⊢
 rw[←List.take_append_drop i l,onceF_app,h]
 rfl
theorem clash_once{a b:Pt}(h:1≤a.kind∧a.kind≤10):clashR a b=((shapeOf a.kind).once&&decide (b.kind=a.kind∧b.target=a.target)):=by
 have hc:a.kind=1∨a.kind=2∨a.kind=3∨a.kind=4∨a.kind=5∨a.kind=6∨a.kind=7∨a.kind=8∨a.kind=9∨a.kind=10:=by omega
 unfold clashR
 by_cases h1:a.target=b.target<;>by_cases h2:a.kind=b.kind
 ·have h1':=h1.symm
  have h2':=h2.symm
  rcases hc with e|e|e|e|e|e|e|e|e|e<;>rw[e]at h2' ⊢<;>simp[h1',h2',shapeOf,sW]
 ·have h2':¬b.kind=a.kind:=fun e=>h2 e.symm
  simp[h2,h2']
 ·have h1':¬b.target=a.target:=fun e=>h1 e.symm
  simp[h1,h1']
 ·have h2':¬b.kind=a.kind:=fun e=>h2 e.symm
  simp[h2,h2']
theorem cntP_pos{l:List Pt}{a b:Int}:0<mE l a b↔∃(i:Nat) (h:i<l.length),l[i].kind=a∧l[i].target=b:=by
 unfold mE
 rw[List.length_pos_iff_exists_mem]
 constructor
 ·rintro⟨p,hp⟩
  obtain⟨hp1,hp2⟩:=List.mem_filter.1 hp
  obtain⟨i,hi,rfl⟩:=List.mem_iff_getElem.1 hp1
  exact⟨i,hi,of_decide_eq_true hp2⟩
 ·rintro⟨i,hi,h⟩
  exact⟨l[i],List.mem_filter.2 ⟨List.getElem_mem hi,decide_eq_true h⟩⟩
theorem yL(vt vl:Value)(t:List Nd)(l:List Pt)(w:World)(ht:aJ w vt t)(hl:PartsAt w vl l)(hkt:eG t true=0→∀x∈t,1≤x.kind∧x.kind≤6)(hnl:∀p∈l,p.nodes.length≤1000000000) :
  bV Tryz.prog 69 #[vt,vl] w (fun v w'=>v=.int .i64 (dU t l)∧Ext w w'):=by
 have hml:maxLen=9223372036854775807:=rfl
 have hl0:=hl
 obtain⟨o,c,rfl,h1,h2,h3,-⟩:=hl0.open_
 obtain⟨qs,hsl,hpts⟩:=hl.ex
 have hql:qs.length=l.length:=hpts.1
 have hrow:∀i (hi:i<l.length),gM w (qs[i]'(by omega)) l[i]:=fun i hi=>hpts.2 i _ _ (List.getElem?_eq_getElem (by omega)) (List.getElem?_eq_getElem hi)
 have hcel:∀w',Ext w w'→∀i (hi:i<l.length),∃a,o=some a∧Cells w' (a.add (i*4)) (qs[i]'(by omega)).cells:=fun w' hE i hi=>(hsl.el _ _ _ rfl).ext hE i _ (by rw[List.getElem?_map,List.getElem?_eq_getElem (by omega)];rfl)
 refine enter aB Tryz.func69 (aV rfl) rfl rfl rfl ?_
 refine aA.mk _ (rCheckT_con vt t w ht) ?_
 rintro v w1 ⟨rfl,hE1⟩
 rw[rG]
 refine Cond.dH (fun g1=>?_) (fun g1=>?_)
 ·refine And.intro ?_ hE1
  simp only[dU]
  rw[if_pos g1]
  rfl
 have g1':¬eG t true≠0:=fun h=>h g1
 refine Cond.dec (fun g2=>?_) (fun g2=>?_)
 ·refine And.intro ?_ hE1
  simp only[dU]
  rw[if_neg g1',if_pos (by omega)]
  rfl
 have g2':¬1000<l.length:=by omega
 refine aH.mk (X:=Nat) (fun i=>[(0,vt),(1,.slice o l.length c),(5,.int .i64 i)])
  (fun i w'=>Ext w w'∧i≤l.length∧bY t (l.take i)=0) (fun i=>l.length-i) 0 ⟨hE1,Nat.zero_le _,rfl⟩ ⟨rfl,rfl,rfl,trivial⟩ ?_
 rintro i w2 ⟨hE2,hi,hfe⟩
 refine Cond.dec (fun g3=>?_) (fun g3=>?_)
 ·have hil:i<l.length:=by omega
  have hsplit:l=l.take i++l[i]::l.drop (i+1):=by rw[List.getElem_cons_drop,List.take_append_drop]
  have hfirst:bY t l=if bZ t l[i]≠0 then bZ t l[i]else bY t (l.drop (i+1)):=by
   conv=>lhs;rw[hsplit]
   exact wI hfe _ _
  have hfn:bZ t l[i]=0→bY t (l.take (i+1))=0:=fun h=>by
   rw[List.take_succ_eq_append_getElem hil,wI hfe,if_neg (fun g=>g h)]
   rfl
  have fin:∀e,e≠0→bZ t l[i]=e→dU t l=e:=fun e he h=>by
   simp only[dU]
   have hfe2:bY t l=e:=by rw[hfirst,h,if_pos he]
   rw[if_neg g1',if_neg g2',hfe2,if_pos he]
  have hp:=hrow i hil
  have hpn:=hnl _ (List.getElem_mem hil)
  obtain⟨a,ha,hc⟩:=hcel w2 hE2 i hil
  subst ha
  refine Idx.mk a rfl (by omega) (by omega) ?_
  refine Load.here (hc.all' rfl) ?_
  refine aA.mk _ (rItself_con _ _ w2 (hp.ext hE2) hpn) ?_
  rintro v w3 ⟨rfl,hE3⟩
  have hE03:=hE2.trans hE3
  refine Cond.neg (fun g4=>?_) (fun g4=>?_)
  ·refine And.intro ?_ hE03
   rw[fin 4 (by decide) (by unfold bZ;rw[if_pos g4])]
   rfl
  obtain⟨a',e,hc3⟩:=hcel w3 hE03 i hil
  cases e
  refine Idx.mk a rfl (by omega) (by omega) ?_
  refine Load.here (hc3.all' rfl) ?_
  have hkk:=mX g4
  refine aA.mk _ (rTarget_con vt t _ _ w3 (ht.ext hE03) (hp.ext hE03) hpn hkk (hkt g1)) ?_
  rintro v w4 ⟨rfl,hE4⟩
  have hE04:=hE03.trans hE4
  refine Cond.neg (fun g5=>?_) (fun g5=>?_)
  ·refine And.intro ?_ hE04
   rw[fin 280 (by decide) (by unfold bZ;rw[if_neg (by rw[g4];simp),if_pos g5])]
   rfl
  obtain⟨a',e,hc4⟩:=hcel w4 hE04 i hil
  cases e
  refine Idx.mk a rfl (by omega) (by omega) ?_
  refine Load.here (hc4.all' rfl) ?_
  have htr:=aimed_lt g5
  refine aA.mk _ (rBecomes_con vt t _ _ w4 (ht.ext hE04) (hp.ext hE04) htr.1 htr.2.1) ?_
  rintro v w5 ⟨rfl,hE5⟩
  have hE05:=hE04.trans hE5
  refine Cond.neg (fun g6=>?_) (fun g6=>?_)
  ·refine And.intro ?_ hE05
   rw[fin 4 (by decide) (by unfold bZ;rw[if_neg (by rw[g4];simp),if_neg (by rw[g5];simp),if_pos g6])]
   rfl
  refine Ar.aM (i+1) (by omega) (by omega) ?_
  refine⟨i+1,⟨hE05,by omega,hfn ?_⟩,by omega,rfl,rfl,rfl,trivial⟩
  unfold bZ
  rw[if_neg (by rw[g4];simp),if_neg (by rw[g5];simp),if_neg (by rw[g6];simp)]
 have hin:i=l.length:=by omega
 subst hin
 rw[List.take_length]at hfe
 have hal:∀p∈l,1≤p.kind∧p.kind≤10:=fun p hp=>mX (sP (mW hfe p hp)).1
 have hck:dU t l=if kY l then 0 else 281:=by
  simp only[dU]
  rw[if_neg g1',if_neg g2',if_neg (fun h=>h hfe)]
 refine aH.mk (X:=Nat) (fun i=>[(1,.slice o l.length c),(6,.int .i64 i)])
  (fun i w'=>Ext w w'∧i≤l.length∧kY (l.take i)=true) (fun i=>l.length-i) 0 ⟨hE2,Nat.zero_le _,rfl⟩ ⟨rfl,rfl,trivial⟩ ?_
 rintro i w3 ⟨hE3,hi,hon⟩
 refine Cond.dec (fun g4=>?_) (fun g4=>?_)
 ·have hil:i<l.length:=by omega
  refine aH.mk (X:=Nat) (fun k=>[(1,.slice o l.length c),(6,.int .i64 i),(7,.int .i64 k)])
   (fun k w'=>Ext w w'∧k≤i∧∀j (hj:j<l.length),j<k→clashR l[i] l[j]=false) (fun k=>i-k) 0 ⟨hE3,Nat.zero_le _,fun j hj h=>by omega⟩ ⟨rfl,rfl,rfl,trivial⟩ ?_
  rintro k w4 ⟨hE4,hk,hcl⟩
  have hki:=hal _ (List.getElem_mem hil)
  refine Cond.dec (fun g5=>?_) (fun g5=>?_)
  ·have hkl:k<l.length:=by omega
   obtain⟨a,ha,hc⟩:=hcel w4 hE4 i hil
   subst ha
   refine aQ.mk aB mixed (allT 0 8++[(8,false)]) [8] (by kernel_rfl) (fun w'=>w'=w4.drew) rfl ?_
   have hE4d:=hE4.trans (Ext.drew w4)
   obtain⟨a',e,hci⟩:=hcel w4.drew hE4d i hil
   cases e
   obtain⟨a',e,hck2⟩:=hcel w4.drew hE4d k hkl
   cases e
   refine Idx.mk a rfl (by omega) (by omega) ?_
   refine Load.here (hci.all' rfl) ?_
   refine Idx.mk a rfl (by omega) (by omega) ?_
   refine Load.here (hck2.all' rfl) ?_
   refine aA.mk _ (rClash_con _ _ l[i] l[k] w _ (hrow i hil) (hrow k hkl)) ?_
   rintro v w5 ⟨rfl,hE5⟩
   have hE05:=hE4d.trans hE5
   refine Cond.mk (fun g6=>?_) (fun g6=>?_)
   ·refine And.intro ?_ hE05
    have hbad:kY l=false:=by
     apply onceB_bad (i:=i+1)
     rw[clash_once hki,Bool.and_eq_true]at g6
     rw[onceB_take hil,g6.1,decide_eq_true (cntP_pos.2 ⟨k,by rw[List.length_take];omega,by rw[List.getElem_take];exact of_decide_eq_true g6.2⟩)]
     simp
    rw[hck,hbad]
    rfl
   ·refine Ar.aM (k+1) (by omega) (by omega) ?_
    refine⟨k+1,⟨hE05,by omega,fun j hj hjk=>?_⟩,by omega,rfl,rfl,rfl,trivial⟩
    by_cases e:j=k
    ·subst e;exact g6
    ·exact hcl j hj (by omega)
  ·refine Ar.aM (i+1) (by omega) (by omega) ?_
   refine⟨i+1,⟨hE4,by omega,?_⟩,by omega,rfl,rfl,trivial⟩
   rw[onceB_take hil,hon,Bool.true_and,Bool.not_eq_true',Bool.and_eq_false_iff]
   by_cases hex:0<mE (l.take i) l[i].kind l[i].target
   ·obtain⟨j,hj,h⟩:=cntP_pos.1 hex
    rw[List.length_take]at hj
    rw[List.getElem_take]at h
    have:=hcl j (by omega) (by omega)
    rw[clash_once hki,decide_eq_true h,Bool.and_true]at this
    exact .inl this
   ·exact .inr (decide_eq_false hex)
 ·have hin:i=l.length:=by omega
  subst hin
  rw[List.take_length]at hon
  refine And.intro ?_ hE3
  rw[hck,hon]
  rfl
end Go.Proofs.YtelffdgcikceaaaGreatDoor
end
