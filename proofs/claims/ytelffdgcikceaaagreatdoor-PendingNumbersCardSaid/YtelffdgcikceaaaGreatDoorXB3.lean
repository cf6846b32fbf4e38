/- Texts D5, D6, F2, F3, F4, F5, F6, D7, E1. The package tree: all, Check, Fragment. -/
import Derived.Test.YtelffdgcikceaaaGreatDoorXB2
set_option linter.unusedSimpArgs false
set_option linter.unusedVariables false
section
namespace Go.Proofs.YtelffdgcikceaaaGreatDoor
open Go.V
open Go.RowKit (Below)
structure CkOk(s:wP)(k n:Nat):Prop where
 dl:s.deep.length=n
 ll:s.last.length=n
 top:s.top<k
 last:∀(p:Nat) (h:p<s.last.length),p<k→s.last[p]<k
 deep:∀x∈s.deep,0≤x∧x≤k
 el:0≤s.elements∧s.elements≤k
 dd:0≤s.deepest∧s.deepest≤k
theorem CkOk.init(n:Nat):CkOk (lX n) 0 n:=by
 refine⟨by simp[lX],by simp[lX],by simp[lX],fun p h hp=>absurd hp (by omega),fun x hx=>?_,by simp[lX],by simp[lX]⟩
 have:=List.eq_of_mem_replicate hx
 omega
theorem lW{l:List Int}{i:Nat}(h:i<l.length):l.getD i 0∈l:=by
 simp[h]
theorem CkOk.next{s:wP}{k n:Nat}(h:CkOk s k n)(x:Nd)(hk:k<n)(hp:x.parent<k)(hp0:-1≤x.parent):CkOk (aD s (s.last.set k (-1)) x k) (k+1) n:=by
 have hd1:∀y∈(if 0≤x.parent then s.deep.set k (s.deep.getD x.parent.toNat 0)else s.deep),0≤y∧y≤k:=by
  intro y hy
  split at hy
  ·rcases List.mem_or_eq_of_mem_set hy with hy|rfl
   ·exact h.deep _ hy
   ·exact h.deep _ (lW (by rw[h.dl];omega))
  ·exact h.deep _ hy
 have hl1:(if 0≤x.parent then s.deep.set k (s.deep.getD x.parent.toNat 0)else s.deep).length=n:=by
  split<;>simp[h.dl]
 have hdk:=h.dd
 have hel:=h.el
 refine⟨?_,?_,?_,?_,?_,?_,?_⟩
 ·simp only[aD]
  split
  ·rw[List.length_set];exact hl1
  ·exact hl1
 ·simp only[aD]
  split
  ·simp[h.ll]
  ·split<;>simp[h.ll]
 ·have:=h.top
  simp only[aD]
  split
  ·omega
  ·split<;>omega
 ·have key:∀(p:Nat) (hq:p<(s.last.set k (-1)).length),p<k+1→(s.last.set k (-1))[p]<(k+1:Nat):=by
   intro p hq hpk
   rw[List.getElem_set]
   split
   ·omega
   ·have:=h.last p (by simpa using hq) (by omega)
    omega
  have:(aD s (s.last.set k (-1)) x k).last=if x.kind=3 then s.last.set k (-1)else if x.parent<0 then s.last.set k (-1)else(s.last.set k (-1)).set x.parent.toNat k:=rfl
  rw[this]
  intro p hq hpk
  by_cases h3:x.kind=3
  ·simp only[if_pos h3]at hq ⊢;exact key p hq hpk
  ·by_cases h4:x.parent<0
   ·simp only[if_neg h3,if_pos h4]at hq ⊢;exact key p hq hpk
   ·simp only[if_neg h3,if_neg h4]at hq ⊢
    rw[List.getElem_set]
    split
    ·omega
    ·exact key p (by simpa using hq) hpk
 ·simp only[aD]
  generalize (if 0≤x.parent then s.deep.set k (s.deep.getD x.parent.toNat 0)else s.deep)=d at *
  intro y hy
  split at hy
  ·rcases List.mem_or_eq_of_mem_set hy with hy|rfl
   ·have:=hd1 _ hy;omega
   ·have:=hd1 _ (lW (i:=k) (by omega));omega
  ·have:=hd1 _ hy;omega
 ·simp only[aD]
  split<;>omega
 ·simp only[aD]
  generalize (if 0≤x.parent then s.deep.set k (s.deep.getD x.parent.toNat 0)else s.deep)=d at *
  split
  ·have:=hd1 _ (lW (i:=k) (by omega))
   have e:(d.set k (d.getD k 0+1)).getD k 0=d.getD k 0+1:=by simp[hl1,hk]
   rw[e]
   omega
  ·omega
theorem yV(o:Option Addr)(n c:Nat)(o1:Option Addr)(n1 c1:Nat)(o2:Option Addr)(n2 c2:Nat)(w:World) :
  (Instr.build 154 #[(0,.slice o n c),(1,.slice o1 n1 c1),(2,.slice o2 n2 c2),(3,.int .i64 (-1))]).run Tryz.prog w=.ok (.agg #[.slice o n c,.slice o1 n1 c1,.slice o2 n2 c2,.int .i64 (-1)]) w:=by kernel_rfl
theorem gL:jM Tryz.prog 3 1=true:=by kernel_rfl
theorem all_con(t:List Nd)(root:Bool)(v:Value)(w:World)(ht:aJ w v t)(hG:jV w) :
  bV Tryz.prog 63 #[v,.bool root] w (fun v' w'=>v'=.int .i64 (eG t root)∧Ext w w'):=by
 obtain⟨o,c,rfl,h1,h2,h3,h4⟩:=ht.open_
 have hl:=ht.len
 refine enter aB Tryz.func63 (aV rfl) rfl rfl rfl ?_
 refine Cond.dec (fun g1=>?_) (fun g1=>?_)
 ·refine And.intro ?_ (Ext.refl _)
  have:16384<t.length:=by omega
  simp[aC,eG,this]
 refine aQ.script aB mixed (Scr.takes [0,1,2,4,5] (.both 3 (.carry 6 (.carry 7 (.carry 8 (.take 9 .done)))) 6 (.carry 3 (.carry 7 (.carry 8 (.take 9 .done)))))) [3,6,7,8] (by kernel_rfl) (fun _=>True) trivial
  (X:=Nat × Nat × Nat) (fun x=>[(0,.slice o t.length c),(1,.bool root),(5,.pointer (some ⟨x.1,0,none⟩))])
  (fun x w'=>Ext w w'∧bQ w' x.1 [.slice o t.length c,.slice (some ⟨x.2.1,0,none⟩) t.length t.length,.slice (some ⟨x.2.2,0,none⟩) t.length t.length,.int .i64 (-1)] 154∧
   bQ w' x.2.1 (ints (List.replicate t.length 0)) 3∧bQ w' x.2.2 (ints (List.replicate t.length 0)) 3∧w.heap.size≤x.1∧w.heap.size≤x.2.1∧w.heap.size≤x.2.2∧x.1≠x.2.1∧x.1≠x.2.2∧x.2.1≠x.2.2) ?_ ?_
 ·refine And.intro ?_ ?_
  ·refine oJ hl fun b1 w1 n1=>?_
   refine oJ hl fun b2 w2 n2=>?_
   refine aG.mk _ _ (yV _ _ _ _ _ _ _ _ _ _) ?_
   refine aG.box [_,_,_,_] rfl fun b3 w3 n3=>?_
   have e1:=n1.b_eq;have e2:=n2.b_eq;have e3:=n3.b_eq
   have s1:=n1.sz;have s2:=n2.sz;have s3:=n3.sz
   have s0:=(Ext.drew w).sz
   refine⟨(b3,b1,b2),⟨(((Ext.drew w).trans n1.ext).trans n2.ext).trans n3.ext,n3.blk,(n1.blk.ext n2.ext).ext n3.ext,n2.blk.ext n3.ext,?_,?_,?_,?_,?_,?_⟩,rfl,rfl,rfl,trivial⟩<;>simp only<;>omega
  ·refine oJ hl fun b1 w1 n1=>?_
   refine oJ hl fun b2 w2 n2=>?_
   refine aG.mk _ _ (yV _ _ _ _ _ _ _ _ _ _) ?_
   refine aG.box [_,_,_,_] rfl fun b3 w3 n3=>?_
   have e1:=n1.b_eq;have e2:=n2.b_eq;have e3:=n3.b_eq
   have s1:=n1.sz;have s2:=n2.sz;have s3:=n3.sz
   have s0:=(Ext.drew w).sz
   refine⟨(b3,b2,b1),⟨(((Ext.drew w).trans n1.ext).trans n2.ext).trans n3.ext,n3.blk,n2.blk.ext n3.ext,(n1.blk.ext n2.ext).ext n3.ext,?_,?_,?_,?_,?_,?_⟩,rfl,rfl,rfl,trivial⟩<;>simp only<;>omega
 rintro⟨bc,bd,bl⟩ w0 ⟨hE0,hbc,hbd,hbl,lc,ld,ll,ncd,ncl,ndl⟩
 simp only at hbc hbd hbl lc ld ll ncd ncl ndl ⊢
 refine aH.mk (X:=Nat × wP) (fun x=>[(0,.slice o t.length c),(1,.bool root),(5,.pointer (some ⟨bc,0,none⟩)),(6,.int .i64 x.2.elements),(7,.int .i64 x.2.deepest),(22,.slice o t.length c),(23,.int .i64 t.length),(24,.int .i64 x.1)])
  (fun x w'=>Ext w w'∧x.1≤t.length∧gW t root x.1=some x.2∧Ord t x.1∧CkOk x.2 x.1 t.length∧
   bQ w' bc [.slice o t.length c,.slice (some ⟨bd,0,none⟩) t.length t.length,.slice (some ⟨bl,0,none⟩) t.length t.length,.int .i64 x.2.top] 154∧
   bQ w' bd (ints x.2.deep) 3∧bQ w' bl (ints x.2.last) 3) (fun x=>t.length-x.1) (0,lX t.length)
  ⟨hE0,Nat.zero_le _,rfl,fun j hj=>absurd hj (by simp),CkOk.init _,hbc,hbd,hbl⟩ ⟨rfl,rfl,rfl,rfl,rfl,rfl,rfl,rfl,trivial⟩ ?_
 rintro⟨k,s⟩ w1 ⟨hE1,hk,hrun,hord,hok,hbc,hbd,hbl⟩
 simp only at hk hrun hord hok hbc hbd hbl ⊢
 have hlen:t.length≤16384:=by omega
 have hml:maxLen=9223372036854775807:=rfl
 have fail:iC t root s k=none→k<t.length→∀w',Ext w w'→(aC [Value.int .i64 4]=Value.int .i64 (eG t root)∧Ext w w'):=fun h hkl w' hE=>by
  have h1:gW t root (k+1)=none:=by simp[gW,hrun,h]
  have h2:=runB_none h1 (show k+1≤t.length by omega)
  refine⟨?_,hE⟩
  have:¬16384<t.length:=by omega
  simp[aC,eG,this,h2]
 refine Cond.dec (fun g2=>?_) (fun g2=>?_)
 rotate_left
 ·have hkl:k=t.length:=by omega
  subst hkl
  have hn:¬16384<t.length:=by omega
  have done:∀e:Int,(if root=true∧s.elements≠1 then 4 else if 60<s.deepest then 131 else 0)=e→(aC [Value.int .i64 e]=Value.int .i64 (eG t root)∧Ext w w1):=fun e h=>by
   refine⟨?_,hE1⟩
   simp only[aC,eG,hn,if_false,hrun]
   rw[h]
  cases root with
  | true=>
    repeat (first|refine gA ?_|refine gB ?_|refine gC ?_)
    refine Cond.dH (fun g3=>done 4 (by simp[g3])) (fun g3=>?_)
    refine Cond.dec (fun g4=>done 131 ?_) (fun g4=>done 0 ?_)
    ·rw[if_neg (by simp[g3]),if_pos g4]
    ·rw[if_neg (by simp[g3]),if_neg g4]
  | false=>
    repeat (first|refine gA ?_|refine gB ?_|refine gC ?_)
    refine Cond.no ?_
    refine Cond.dec (fun g4=>done 131 ?_) (fun g4=>done 0 ?_)
    ·rw[if_neg (by simp),if_pos g4]
    ·rw[if_neg (by simp),if_neg g4]
 have hkl:k<t.length:=by omega
 have hnd:=eT hkl
 obtain⟨ak,hak,hck⟩:=h4 _ hE1 k hkl
 have hwf:=ht.wf _ (List.getElem_mem hkl)
 refine Idx.mk ak hak (by omega) (by omega) ?_
 refine Load.here (hck.all' rfl) ?_
 refine aG.alloc _ [.int .u8 0,.string ⟨#[]⟩,.string ⟨#[]⟩,.int .i64 0] mU rfl fun bn w2 hn1=>?_
 generalize t[k]=x at *
 obtain⟨kind,name,value,parent⟩:=x
 refine bA.store bn 0 _ [.int .u8 kind,.string name,.string value,.int .i64 parent] 50 rfl rfl (by kernel_rfl) hn1.blk (by simp) (by simp[Value.oneCell']) fun w3 hn2=>?_
 have hN:=hn1.upd hn2
 have hbnE:=hN.b_eq
 have lt1:=hbc.lt
 have lt2:=hbd.lt
 have lt3:=hbl.lt
 have hdl:=hok.dl
 have hll:=hok.ll
 have hbn:bQ w3 bn [.int .u8 kind,.string name,.string value,.int .i64 parent] 50:=hN.blk
 refine Load.here ((hbc.ext hN.ext).cells.one rfl) ?_
 refine Idx.mk ⟨bl,0,none⟩ rfl (by omega) (by omega) ?_
 refine iM (k:=k) gL (hbl.ext hN.ext) (by omega) fun w4 hU4=>?_
 have hbc4:=hU4.aF (hbc.ext hN.ext) ncl
 have hbd4:=hU4.aF (hbd.ext hN.ext) ndl
 have hbn4:=hU4.aF hbn (by omega)
 have hbl4:=hU4.blk
 have hE4:Ext w w4:=(hE1.trans hN.ext).upd hU4 ll
 have hc0:w4.cell? ⟨bc,0,none⟩=some (.slice o t.length c):=by rw[hbc4.cell];rfl
 have hc2:w4.cell? ⟨bc,2,none⟩=some (.slice (some ⟨bl,0,none⟩) t.length t.length):=by rw[hbc4.cell];rfl
 have hc3:w4.cell? ⟨bc,3,none⟩=some (.int .i64 s.top):=by rw[hbc4.cell];rfl
 clear hn1 hn2
 refine aA.mk _ (open_con bc k t _ w4 hc0 (ht.ext hE4) hkl hord.up) ?_
 rintro v w5 ⟨rfl,rfl⟩
 refine Cond.neg (fun ho=>fail (by simp[iC,ho]) hkl _ hE4) (fun ho=>?_)
 have hop:=hord.open_ ho
 have hord':=hord.succ ho
 rw[hnd]at hop
 simp only at hop
 have hwk:=hwf.kind
 simp only at hwk
 have hlast1:∀(p:Nat) (h:p<(s.last.set k (-1)).length),p<k→(s.last.set k (-1))[p]<k:=fun p h hp=>by
  rw[List.getElem_set_ne (by omega)]
  exact hok.last p (by simpa using h) hp
 have hlasts:tY w5 (.slice (some ⟨bl,0,none⟩) t.length t.length) (s.last.set k (-1)):=by
  have:=ints_of_blk hbl4 (by simp;omega)
  simp only[List.length_set,hll]at this
  exact this
 have hC:ChkAt w5 bc (.slice o t.length c) (.slice (some ⟨bl,0,none⟩) t.length t.length) t (s.last.set k (-1)) s.top:=⟨hc0,hc2,hc3,ht.ext hE4,hlasts,by simp[hll]⟩
 have hfits:=fits_con bc k t (s.last.set k (-1)) s.top _ _ w5 hC hkl (by rw[hnd];exact hop.1) (by rw[hnd];exact hop.2) hok.top hlast1 (hG.ext hE4)
 clear hC hlasts
 have hstep:kN t (s.last.set k (-1)) s.top k=true→¬(root=true∧k=0)→¬(root=true∧parent<0)→gW t root (k+1)=some (aD s (s.last.set k (-1)) ⟨kind,name,value,parent⟩ k):=fun hf h1 h2=>by
  simp[gW,hrun,iC,hnd,ho,hf,h1,h2]
 have hokn:=hok.next ⟨kind,name,value,parent⟩ hkl hop.1 hop.2
 cases root
 ·repeat (first|refine gA ?_|refine gB ?_|refine gC ?_)
  refine Cond.no ?_
  repeat (first|refine gA ?_|refine gB ?_|refine gC ?_)
  have hs1:kN t (s.last.set k (-1)) s.top k=true→gW t false (k+1)=some (aD s (s.last.set k (-1)) ⟨kind,name,value,parent⟩ k):=fun h=>hstep h (by simp<;>omega) (by simp<;>omega)
  have hs2:kN t (s.last.set k (-1)) s.top k=false→iC t false s k=none:=fun h=>by
   simp[iC,ho,hnd,h]
   try omega
  clear hstep
  refine aA.mk _ hfits ?_
  rintro v w6 ⟨rfl,hE6⟩
  repeat (first|refine gA ?_|refine gB ?_|refine gC ?_)
  refine Cond.neg (fun hf=>fail (hs2 hf) hkl _ (hE4.trans hE6)) (fun hf=>?_)
  have hrn:=hs1 hf
  have hel0:=hok.el
  have hE6':=hE4.trans hE6
  have hbc6:=hbc4.ext hE6
  have hbd6:=hbd4.ext hE6
  have hbl6:=hbl4.ext hE6
  have hbn6:=hbn4.ext hE6
  clear hs1 hs2 fail hfits
  refine Load.here (hbn6.cells.one rfl) ?_
  obtain⟨d1,hd1⟩:∃d1,d1=(if 0≤parent then s.deep.set k (s.deep.getD parent.toNat 0)else s.deep):=⟨_,rfl⟩
  have hd1l:d1.length=t.length:=by rw[hd1];split<;>simp[hdl]
  have hd1k:0≤d1.getD k 0∧d1.getD k 0≤k:=by
   rw[hd1]
   split
   ·rw[List.getD_eq_getElem?_getD,List.getElem?_set_self (by omega)]
    exact hok.deep _ (lW (by omega))
   ·exact hok.deep _ (lW (by omega))
  have hd1g:d1.getD k 0=d1[k]'(by omega):=by simp[hd1l,hkl]
  refine Cond.dec (fun p0=>?_) (fun p0=>?_)
  ·have hE6d:=Ext.drew w6
   have hb7c:=hbc6.ext hE6d
   have hb7d:=hbd6.ext hE6d
   have hpk:parent.toNat<s.deep.length:=by omega
   refine aQ.script aB mixed (Scr.takes [0,1,2,3,4,5,6,7,8,9,10,11,12,13] (.carry 14 .done)) [14] (by kernel_rfl) (fun w'=>w'=w6.drew) rfl
    (X:=Unit) (fun _=>[(0,.slice o t.length c),(1,.bool false),(5,.pointer (some ⟨bc,0,none⟩)),(6,.int .i64 s.elements),(7,.int .i64 s.deepest),(8,.int .i64 k),(9,.pointer (some ⟨bn,0,none⟩)),(22,.slice o t.length c),(23,.int .i64 t.length),(24,.int .i64 k)])
    (fun _ w'=>mK w6.drew bd (ints (s.deep.set k s.deep[parent.toNat])) 3 w') ?_ ?_
   ·refine Load.here (hb7c.cells.one rfl) ?_
    refine Load.here (hb7c.cells.one rfl) ?_
    refine Load.here ((hbn6.ext hE6d).cells.one rfl) ?_
    refine Idx.mk ⟨bd,0,none⟩ rfl (by omega) (by omega) ?_
    refine Load.here (fG hb7d hpk) ?_
    refine Idx.mk ⟨bd,0,none⟩ rfl (by omega) (by omega) ?_
    refine iM (k:=k) gL hb7d (by omega) fun w7 hU7=>?_
    exact⟨(),hU7,rfl,rfl,rfl,rfl,rfl,rfl,rfl,rfl,rfl,rfl,trivial⟩
   rintro _ w7 hU7
   have hd1':s.deep.set k s.deep[parent.toNat]=d1:=by rw[hd1,if_pos p0];simp[hpk]
   rw[hd1']at hU7
   have hbd7:=hU7.blk
   have hbc7:=hU7.aF hb7c ncd
   have hbl7:=hU7.aF (hbl6.ext hE6d) (Ne.symm ndl)
   have hbn7:=hU7.aF (hbn6.ext hE6d) (by omega)
   have hE7:Ext w w7:=(hE6'.trans hE6d).upd hU7 ld
   refine Load.here (hbn7.cells.one rfl) ?_
   refine Cond.dec (fun k2=>?_) (fun k2=>?_)
   ·refine Load.here (hbc7.cells.one rfl) ?_
    refine Idx.mk ⟨bd,0,none⟩ rfl (by omega) (by omega) ?_
    refine Load.here (fG hbd7 (k:=k) (by omega)) ?_
    refine Ar.i64 (by omega) ?_
    refine Idx.mk ⟨bd,0,none⟩ rfl (by omega) (by omega) ?_
    refine iM (k:=k) gL hbd7 (by omega) fun w8 hU8=>?_
    have hbd8:=hU8.blk
    have hbc8:=hU8.aF hbc7 ncd
    have hbl8:=hU8.aF hbl7 (Ne.symm ndl)
    have hbn8:=hU8.aF hbn7 (by omega)
    have hE8:Ext w w8:=hE7.upd hU8 ld
    have hd2:(aD s (s.last.set k (-1)) ⟨kind,name,value,parent⟩ k).deep=d1.set k (d1[k]'(by omega)+1):=by
     simp only[aD,←hd1,if_pos k2,hd1g]
    have hdd:(aD s (s.last.set k (-1)) ⟨kind,name,value,parent⟩ k).deepest=max s.deepest ((d1.set k (d1[k]'(by omega)+1))[k]'(by simp;omega)):=by
     simp only[aD,←hd1,if_pos k2,hd1g]
     simp[hd1l,hkl]
    refine Load.here (hbc8.cells.one rfl) ?_
    refine Idx.mk ⟨bd,0,none⟩ rfl (by omega) (by omega) ?_
    refine Load.here (fG hbd8 (k:=k) (by simp;omega)) ?_
    refine bD.max2 ?_
    refine Load.here (hbn8.cells.one rfl) ?_
    refine Cond.dec (fun e0=>?_) (fun e0=>?_)
    ·refine Ar.i64 (by omega) ?_
     have hel:(aD s (s.last.set k (-1)) ⟨kind,name,value,parent⟩ k).elements=s.elements+1:=by
      simp only[aD]
      rw[if_pos ⟨k2,e0⟩]
     refine Load.here (hbn8.cells.one rfl) ?_
     refine Cond.dec (fun k3=>absurd k3 (by omega)) (fun k3=>?_)
     refine Load.here (hbn8.cells.one rfl) ?_
     refine Cond.dec (fun p1=>absurd p1 (by omega)) (fun p1=>?_)
     have htp:(aD s (s.last.set k (-1)) ⟨kind,name,value,parent⟩ k).top=s.top:=by simp only[aD,if_neg k3,if_neg p1]
     have hla:(aD s (s.last.set k (-1)) ⟨kind,name,value,parent⟩ k).last=(s.last.set k (-1)).set parent.toNat k:=by simp only[aD,if_neg k3,if_neg p1]
     have hE8d:=Ext.drew w8
     refine aQ.mk aB mixed (allT 0 8++[(8,false)]) [8] (by kernel_rfl) (fun w'=>w'=World.drew w8) rfl ?_
     refine Load.here ((hbc8.ext hE8d).cells.one rfl) ?_
     refine Load.here ((hbn8.ext hE8d).cells.one rfl) ?_
     refine Idx.mk ⟨bl,0,none⟩ rfl (by omega) (by omega) ?_
     refine iM (k:=parent.toNat) gL (hbl8.ext hE8d) (by simp;omega) fun w9 hU9=>?_
     have hbl9:=hU9.blk
     have hbc9:=hU9.aF (hbc8.ext hE8d) ncl
     have hbd9:=hU9.aF (hbd8.ext hE8d) ndl
     have hE9:Ext w w9:=(hE8.trans hE8d).upd hU9 ll
     refine Ar.i64 (by omega) ?_
     refine⟨(k+1,aD s (s.last.set k (-1)) ⟨kind,name,value,parent⟩ k),⟨hE9,by simp only;omega,hrn,hord',hokn,by rw[htp];exact hbc9,by rw[hd2];exact hbd9,by rw[hla];exact hbl9⟩,by simp only;omega,rfl,rfl,rfl,by rw[hel];rfl,by rw[hdd];rfl,rfl,rfl,rfl,trivial⟩
    ·have hel:(aD s (s.last.set k (-1)) ⟨kind,name,value,parent⟩ k).elements=s.elements:=by
      simp only[aD]
      rw[if_neg fun h=>e0 h.2]
     refine Load.here (hbn8.cells.one rfl) ?_
     refine Cond.dec (fun k3=>absurd k3 (by omega)) (fun k3=>?_)
     refine Load.here (hbn8.cells.one rfl) ?_
     refine Cond.dec (fun p1=>?_) (fun p1=>?_)
     ·have htp:(aD s (s.last.set k (-1)) ⟨kind,name,value,parent⟩ k).top=k:=by simp only[aD,if_neg k3,if_pos p1]
      have hla:(aD s (s.last.set k (-1)) ⟨kind,name,value,parent⟩ k).last=s.last.set k (-1):=by simp only[aD,if_neg k3,if_pos p1]
      refine bA.store bc (0+3) _ [.int .i64 k] 154 (bW _ _ _) rfl gL hbc8 (by simp) (by simp[Value.oneCell']) fun w9 hU9=>?_
      have hbc9:bQ w9 bc [.slice o t.length c,.slice (some ⟨bd,0,none⟩) t.length t.length,.slice (some ⟨bl,0,none⟩) t.length t.length,.int .i64 k] 154:=hU9.blk
      have hbd9:=hU9.aF hbd8 (Ne.symm ncd)
      have hbl9:=hU9.aF hbl8 (Ne.symm ncl)
      have hE9:Ext w w9:=hE8.upd hU9 lc
      refine Ar.i64 (by omega) ?_
      refine⟨(k+1,aD s (s.last.set k (-1)) ⟨kind,name,value,parent⟩ k),⟨hE9,by simp only;omega,hrn,hord',hokn,by rw[htp];exact hbc9,by rw[hd2];exact hbd9,by rw[hla];exact hbl9⟩,by simp only;omega,rfl,rfl,rfl,by rw[hel];rfl,by rw[hdd];rfl,rfl,rfl,rfl,trivial⟩
     ·have htp:(aD s (s.last.set k (-1)) ⟨kind,name,value,parent⟩ k).top=s.top:=by simp only[aD,if_neg k3,if_neg p1]
      have hla:(aD s (s.last.set k (-1)) ⟨kind,name,value,parent⟩ k).last=(s.last.set k (-1)).set parent.toNat k:=by simp only[aD,if_neg k3,if_neg p1]
      have hE8d:=Ext.drew w8
      refine aQ.mk aB mixed (allT 0 8++[(8,false)]) [8] (by kernel_rfl) (fun w'=>w'=World.drew w8) rfl ?_
      refine Load.here ((hbc8.ext hE8d).cells.one rfl) ?_
      refine Load.here ((hbn8.ext hE8d).cells.one rfl) ?_
      refine Idx.mk ⟨bl,0,none⟩ rfl (by omega) (by omega) ?_
      refine iM (k:=parent.toNat) gL (hbl8.ext hE8d) (by simp;omega) fun w9 hU9=>?_
      have hbl9:=hU9.blk
      have hbc9:=hU9.aF (hbc8.ext hE8d) ncl
      have hbd9:=hU9.aF (hbd8.ext hE8d) ndl
      have hE9:Ext w w9:=(hE8.trans hE8d).upd hU9 ll
      refine Ar.i64 (by omega) ?_
      refine⟨(k+1,aD s (s.last.set k (-1)) ⟨kind,name,value,parent⟩ k),⟨hE9,by simp only;omega,hrn,hord',hokn,by rw[htp];exact hbc9,by rw[hd2];exact hbd9,by rw[hla];exact hbl9⟩,by simp only;omega,rfl,rfl,rfl,by rw[hel];rfl,by rw[hdd];rfl,rfl,rfl,rfl,trivial⟩
   ·have hbd8:=hbd7
    have hbc8:=hbc7
    have hbl8:=hbl7
    have hbn8:=hbn7
    have hE8:=hE7
    have hd2:(aD s (s.last.set k (-1)) ⟨kind,name,value,parent⟩ k).deep=d1:=by
     simp only[aD,←hd1,if_neg k2]
    have hdd:(aD s (s.last.set k (-1)) ⟨kind,name,value,parent⟩ k).deepest=s.deepest:=by
     simp only[aD,if_neg k2]
    have hel:(aD s (s.last.set k (-1)) ⟨kind,name,value,parent⟩ k).elements=s.elements:=by
     simp only[aD]
     rw[if_neg fun h=>k2 h.1]
    refine Load.here (hbn8.cells.one rfl) ?_
    refine Cond.dec (fun k3=>?_) (fun k3=>?_)
    ·refine Ar.i64 (by omega) ?_
     have htp:(aD s (s.last.set k (-1)) ⟨kind,name,value,parent⟩ k).top=s.top:=by simp only[aD,if_pos k3]
     have hla:(aD s (s.last.set k (-1)) ⟨kind,name,value,parent⟩ k).last=s.last.set k (-1):=by simp only[aD,if_pos k3]
     have hbc9:=hbc8
     have hbd9:=hbd8
     have hbl9:=hbl8
     have hE9:=hE8
     refine⟨(k+1,aD s (s.last.set k (-1)) ⟨kind,name,value,parent⟩ k),⟨hE9,by simp only;omega,hrn,hord',hokn,by rw[htp];exact hbc9,by rw[hd2];exact hbd9,by rw[hla];exact hbl9⟩,by simp only;omega,rfl,rfl,rfl,by rw[hel];rfl,by rw[hdd];rfl,rfl,rfl,rfl,trivial⟩
    refine Load.here (hbn8.cells.one rfl) ?_
    refine Cond.dec (fun p1=>?_) (fun p1=>?_)
    ·have htp:(aD s (s.last.set k (-1)) ⟨kind,name,value,parent⟩ k).top=k:=by simp only[aD,if_neg k3,if_pos p1]
     have hla:(aD s (s.last.set k (-1)) ⟨kind,name,value,parent⟩ k).last=s.last.set k (-1):=by simp only[aD,if_neg k3,if_pos p1]
     refine bA.store bc (0+3) _ [.int .i64 k] 154 (bW _ _ _) rfl gL hbc8 (by simp) (by simp[Value.oneCell']) fun w9 hU9=>?_
     have hbc9:bQ w9 bc [.slice o t.length c,.slice (some ⟨bd,0,none⟩) t.length t.length,.slice (some ⟨bl,0,none⟩) t.length t.length,.int .i64 k] 154:=hU9.blk
     have hbd9:=hU9.aF hbd8 (Ne.symm ncd)
     have hbl9:=hU9.aF hbl8 (Ne.symm ncl)
     have hE9:Ext w w9:=hE8.upd hU9 lc
     refine Ar.i64 (by omega) ?_
     refine⟨(k+1,aD s (s.last.set k (-1)) ⟨kind,name,value,parent⟩ k),⟨hE9,by simp only;omega,hrn,hord',hokn,by rw[htp];exact hbc9,by rw[hd2];exact hbd9,by rw[hla];exact hbl9⟩,by simp only;omega,rfl,rfl,rfl,by rw[hel];rfl,by rw[hdd];rfl,rfl,rfl,rfl,trivial⟩
    ·have htp:(aD s (s.last.set k (-1)) ⟨kind,name,value,parent⟩ k).top=s.top:=by simp only[aD,if_neg k3,if_neg p1]
     have hla:(aD s (s.last.set k (-1)) ⟨kind,name,value,parent⟩ k).last=(s.last.set k (-1)).set parent.toNat k:=by simp only[aD,if_neg k3,if_neg p1]
     have hE8d:=Ext.drew w7
     refine aQ.mk aB mixed (allT 0 8++[(8,false)]) [8] (by kernel_rfl) (fun w'=>w'=World.drew w7) rfl ?_
     refine Load.here ((hbc8.ext hE8d).cells.one rfl) ?_
     refine Load.here ((hbn8.ext hE8d).cells.one rfl) ?_
     refine Idx.mk ⟨bl,0,none⟩ rfl (by omega) (by omega) ?_
     refine iM (k:=parent.toNat) gL (hbl8.ext hE8d) (by simp;omega) fun w9 hU9=>?_
     have hbl9:=hU9.blk
     have hbc9:=hU9.aF (hbc8.ext hE8d) ncl
     have hbd9:=hU9.aF (hbd8.ext hE8d) ndl
     have hE9:Ext w w9:=(hE8.trans hE8d).upd hU9 ll
     refine Ar.i64 (by omega) ?_
     refine⟨(k+1,aD s (s.last.set k (-1)) ⟨kind,name,value,parent⟩ k),⟨hE9,by simp only;omega,hrn,hord',hokn,by rw[htp];exact hbc9,by rw[hd2];exact hbd9,by rw[hla];exact hbl9⟩,by simp only;omega,rfl,rfl,rfl,by rw[hel];rfl,by rw[hdd];rfl,rfl,rfl,rfl,trivial⟩
  ·have hd1':s.deep=d1:=by rw[hd1,if_neg p0]
   rw[hd1']at hbd6
   have hbd7:=hbd6
   have hbc7:=hbc6
   have hbl7:=hbl6
   have hbn7:=hbn6
   have hE7:=hE6'
   refine Load.here (hbn7.cells.one rfl) ?_
   refine Cond.dec (fun k2=>?_) (fun k2=>?_)
   ·refine Load.here (hbc7.cells.one rfl) ?_
    refine Idx.mk ⟨bd,0,none⟩ rfl (by omega) (by omega) ?_
    refine Load.here (fG hbd7 (k:=k) (by omega)) ?_
    refine Ar.i64 (by omega) ?_
    refine Idx.mk ⟨bd,0,none⟩ rfl (by omega) (by omega) ?_
    refine iM (k:=k) gL hbd7 (by omega) fun w8 hU8=>?_
    have hbd8:=hU8.blk
    have hbc8:=hU8.aF hbc7 ncd
    have hbl8:=hU8.aF hbl7 (Ne.symm ndl)
    have hbn8:=hU8.aF hbn7 (by omega)
    have hE8:Ext w w8:=hE7.upd hU8 ld
    have hd2:(aD s (s.last.set k (-1)) ⟨kind,name,value,parent⟩ k).deep=d1.set k (d1[k]'(by omega)+1):=by
     simp only[aD,←hd1,if_pos k2,hd1g]
    have hdd:(aD s (s.last.set k (-1)) ⟨kind,name,value,parent⟩ k).deepest=max s.deepest ((d1.set k (d1[k]'(by omega)+1))[k]'(by simp;omega)):=by
     simp only[aD,←hd1,if_pos k2,hd1g]
     simp[hd1l,hkl]
    refine Load.here (hbc8.cells.one rfl) ?_
    refine Idx.mk ⟨bd,0,none⟩ rfl (by omega) (by omega) ?_
    refine Load.here (fG hbd8 (k:=k) (by simp;omega)) ?_
    refine bD.max2 ?_
    refine Load.here (hbn8.cells.one rfl) ?_
    refine Cond.dec (fun e0=>?_) (fun e0=>?_)
    ·refine Ar.i64 (by omega) ?_
     have hel:(aD s (s.last.set k (-1)) ⟨kind,name,value,parent⟩ k).elements=s.elements+1:=by
      simp only[aD]
      rw[if_pos ⟨k2,e0⟩]
     refine Load.here (hbn8.cells.one rfl) ?_
     refine Cond.dec (fun k3=>absurd k3 (by omega)) (fun k3=>?_)
     refine Load.here (hbn8.cells.one rfl) ?_
     refine Cond.dec (fun p1=>absurd p1 (by omega)) (fun p1=>?_)
     have htp:(aD s (s.last.set k (-1)) ⟨kind,name,value,parent⟩ k).top=s.top:=by simp only[aD,if_neg k3,if_neg p1]
     have hla:(aD s (s.last.set k (-1)) ⟨kind,name,value,parent⟩ k).last=(s.last.set k (-1)).set parent.toNat k:=by simp only[aD,if_neg k3,if_neg p1]
     have hE8d:=Ext.drew w8
     refine aQ.mk aB mixed (allT 0 8++[(8,false)]) [8] (by kernel_rfl) (fun w'=>w'=World.drew w8) rfl ?_
     refine Load.here ((hbc8.ext hE8d).cells.one rfl) ?_
     refine Load.here ((hbn8.ext hE8d).cells.one rfl) ?_
     refine Idx.mk ⟨bl,0,none⟩ rfl (by omega) (by omega) ?_
     refine iM (k:=parent.toNat) gL (hbl8.ext hE8d) (by simp;omega) fun w9 hU9=>?_
     have hbl9:=hU9.blk
     have hbc9:=hU9.aF (hbc8.ext hE8d) ncl
     have hbd9:=hU9.aF (hbd8.ext hE8d) ndl
     have hE9:Ext w w9:=(hE8.trans hE8d).upd hU9 ll
     refine Ar.i64 (by omega) ?_
     refine⟨(k+1,aD s (s.last.set k (-1)) ⟨kind,name,value,parent⟩ k),⟨hE9,by simp only;omega,hrn,hord',hokn,by rw[htp];exact hbc9,by rw[hd2];exact hbd9,by rw[hla];exact hbl9⟩,by simp only;omega,rfl,rfl,rfl,by rw[hel];rfl,by rw[hdd];rfl,rfl,rfl,rfl,trivial⟩
    ·have hel:(aD s (s.last.set k (-1)) ⟨kind,name,value,parent⟩ k).elements=s.elements:=by
      simp only[aD]
      rw[if_neg fun h=>e0 h.2]
     refine Load.here (hbn8.cells.one rfl) ?_
     refine Cond.dec (fun k3=>absurd k3 (by omega)) (fun k3=>?_)
     refine Load.here (hbn8.cells.one rfl) ?_
     refine Cond.dec (fun p1=>?_) (fun p1=>?_)
     ·have htp:(aD s (s.last.set k (-1)) ⟨kind,name,value,parent⟩ k).top=k:=by simp only[aD,if_neg k3,if_pos p1]
      have hla:(aD s (s.last.set k (-1)) ⟨kind,name,value,parent⟩ k).last=s.last.set k (-1):=by simp only[aD,if_neg k3,if_pos p1]
      refine bA.store bc (0+3) _ [.int .i64 k] 154 (bW _ _ _) rfl gL hbc8 (by simp) (by simp[Value.oneCell']) fun w9 hU9=>?_
      have hbc9:bQ w9 bc [.slice o t.length c,.slice (some ⟨bd,0,none⟩) t.length t.length,.slice (some ⟨bl,0,none⟩) t.length t.length,.int .i64 k] 154:=hU9.blk
      have hbd9:=hU9.aF hbd8 (Ne.symm ncd)
      have hbl9:=hU9.aF hbl8 (Ne.symm ncl)
      have hE9:Ext w w9:=hE8.upd hU9 lc
      refine Ar.i64 (by omega) ?_
      refine⟨(k+1,aD s (s.last.set k (-1)) ⟨kind,name,value,parent⟩ k),⟨hE9,by simp only;omega,hrn,hord',hokn,by rw[htp];exact hbc9,by rw[hd2];exact hbd9,by rw[hla];exact hbl9⟩,by simp only;omega,rfl,rfl,rfl,by rw[hel];rfl,by rw[hdd];rfl,rfl,rfl,rfl,trivial⟩
     ·have htp:(aD s (s.last.set k (-1)) ⟨kind,name,value,parent⟩ k).top=s.top:=by simp only[aD,if_neg k3,if_neg p1]
      have hla:(aD s (s.last.set k (-1)) ⟨kind,name,value,parent⟩ k).last=(s.last.set k (-1)).set parent.toNat k:=by simp only[aD,if_neg k3,if_neg p1]
      have hE8d:=Ext.drew w8
      refine aQ.mk aB mixed (allT 0 8++[(8,false)]) [8] (by kernel_rfl) (fun w'=>w'=World.drew w8) rfl ?_
      refine Load.here ((hbc8.ext hE8d).cells.one rfl) ?_
      refine Load.here ((hbn8.ext hE8d).cells.one rfl) ?_
      refine Idx.mk ⟨bl,0,none⟩ rfl (by omega) (by omega) ?_
      refine iM (k:=parent.toNat) gL (hbl8.ext hE8d) (by simp;omega) fun w9 hU9=>?_
      have hbl9:=hU9.blk
      have hbc9:=hU9.aF (hbc8.ext hE8d) ncl
      have hbd9:=hU9.aF (hbd8.ext hE8d) ndl
      have hE9:Ext w w9:=(hE8.trans hE8d).upd hU9 ll
      refine Ar.i64 (by omega) ?_
      refine⟨(k+1,aD s (s.last.set k (-1)) ⟨kind,name,value,parent⟩ k),⟨hE9,by simp only;omega,hrn,hord',hokn,by rw[htp];exact hbc9,by rw[hd2];exact hbd9,by rw[hla];exact hbl9⟩,by simp only;omega,rfl,rfl,rfl,by rw[hel];rfl,by rw[hdd];rfl,rfl,rfl,rfl,trivial⟩
   ·have hbd8:=hbd7
    have hbc8:=hbc7
    have hbl8:=hbl7
    have hbn8:=hbn7
    have hE8:=hE7
    have hd2:(aD s (s.last.set k (-1)) ⟨kind,name,value,parent⟩ k).deep=d1:=by
     simp only[aD,←hd1,if_neg k2]
    have hdd:(aD s (s.last.set k (-1)) ⟨kind,name,value,parent⟩ k).deepest=s.deepest:=by
     simp only[aD,if_neg k2]
    have hel:(aD s (s.last.set k (-1)) ⟨kind,name,value,parent⟩ k).elements=s.elements:=by
     simp only[aD]
     rw[if_neg fun h=>k2 h.1]
    refine Load.here (hbn8.cells.one rfl) ?_
    refine Cond.dec (fun k3=>?_) (fun k3=>?_)
    ·refine Ar.i64 (by omega) ?_
     have htp:(aD s (s.last.set k (-1)) ⟨kind,name,value,parent⟩ k).top=s.top:=by simp only[aD,if_pos k3]
     have hla:(aD s (s.last.set k (-1)) ⟨kind,name,value,parent⟩ k).last=s.last.set k (-1):=by simp only[aD,if_pos k3]
     have hbc9:=hbc8
     have hbd9:=hbd8
     have hbl9:=hbl8
     have hE9:=hE8
     refine⟨(k+1,aD s (s.last.set k (-1)) ⟨kind,name,value,parent⟩ k),⟨hE9,by simp only;omega,hrn,hord',hokn,by rw[htp];exact hbc9,by rw[hd2];exact hbd9,by rw[hla];exact hbl9⟩,by simp only;omega,rfl,rfl,rfl,by rw[hel];rfl,by rw[hdd];rfl,rfl,rfl,rfl,trivial⟩
    refine Load.here (hbn8.cells.one rfl) ?_
    refine Cond.dec (fun p1=>?_) (fun p1=>?_)
    ·have htp:(aD s (s.last.set k (-1)) ⟨kind,name,value,parent⟩ k).top=k:=by simp only[aD,if_neg k3,if_pos p1]
     have hla:(aD s (s.last.set k (-1)) ⟨kind,name,value,parent⟩ k).last=s.last.set k (-1):=by simp only[aD,if_neg k3,if_pos p1]
     refine bA.store bc (0+3) _ [.int .i64 k] 154 (bW _ _ _) rfl gL hbc8 (by simp) (by simp[Value.oneCell']) fun w9 hU9=>?_
     have hbc9:bQ w9 bc [.slice o t.length c,.slice (some ⟨bd,0,none⟩) t.length t.length,.slice (some ⟨bl,0,none⟩) t.length t.length,.int .i64 k] 154:=hU9.blk
     have hbd9:=hU9.aF hbd8 (Ne.symm ncd)
     have hbl9:=hU9.aF hbl8 (Ne.symm ncl)
     have hE9:Ext w w9:=hE8.upd hU9 lc
     refine Ar.i64 (by omega) ?_
     refine⟨(k+1,aD s (s.last.set k (-1)) ⟨kind,name,value,parent⟩ k),⟨hE9,by simp only;omega,hrn,hord',hokn,by rw[htp];exact hbc9,by rw[hd2];exact hbd9,by rw[hla];exact hbl9⟩,by simp only;omega,rfl,rfl,rfl,by rw[hel];rfl,by rw[hdd];rfl,rfl,rfl,rfl,trivial⟩
    ·have htp:(aD s (s.last.set k (-1)) ⟨kind,name,value,parent⟩ k).top=s.top:=by simp only[aD,if_neg k3,if_neg p1]
     have hla:(aD s (s.last.set k (-1)) ⟨kind,name,value,parent⟩ k).last=(s.last.set k (-1)).set parent.toNat k:=by simp only[aD,if_neg k3,if_neg p1]
     have hE8d:=Ext.drew w6
     refine aQ.mk aB mixed (allT 0 8++[(8,false)]) [8] (by kernel_rfl) (fun w'=>w'=World.drew w6) rfl ?_
     refine Load.here ((hbc8.ext hE8d).cells.one rfl) ?_
     refine Load.here ((hbn8.ext hE8d).cells.one rfl) ?_
     refine Idx.mk ⟨bl,0,none⟩ rfl (by omega) (by omega) ?_
     refine iM (k:=parent.toNat) gL (hbl8.ext hE8d) (by simp;omega) fun w9 hU9=>?_
     have hbl9:=hU9.blk
     have hbc9:=hU9.aF (hbc8.ext hE8d) ncl
     have hbd9:=hU9.aF (hbd8.ext hE8d) ndl
     have hE9:Ext w w9:=(hE8.trans hE8d).upd hU9 ll
     refine Ar.i64 (by omega) ?_
     refine⟨(k+1,aD s (s.last.set k (-1)) ⟨kind,name,value,parent⟩ k),⟨hE9,by simp only;omega,hrn,hord',hokn,by rw[htp];exact hbc9,by rw[hd2];exact hbd9,by rw[hla];exact hbl9⟩,by simp only;omega,rfl,rfl,rfl,by rw[hel];rfl,by rw[hdd];rfl,rfl,rfl,rfl,trivial⟩
 ·repeat (first|refine gA ?_|refine gB ?_|refine gC ?_)
  refine Cond.dec (fun k0=>?_) (fun k0=>?_)
  ·have k0':k=0:=by omega
   have hs0:iC t true s k=(if kind=1∧name=aP∧value=aP then some { s with last:=s.last.set k (-1) } else none):=by
    unfold iC
    simp only[hnd,ho]
    rw[if_neg (by simp),if_pos (by simp[k0'])]
   refine Load.here (hbn4.cells.one rfl) ?_
   refine aK.bP (fun a1=>?_) (fun a1=>?_)
   ·repeat (first|refine gA ?_|refine gB ?_|refine gC ?_)
    refine Load.here (hbn4.cells.one rfl) ?_
    repeat (first|refine gA ?_|refine gB ?_|refine gC ?_)
    refine aK.bP (fun a2=>?_) (fun a2=>?_)
    ·repeat (first|refine gA ?_|refine gB ?_|refine gC ?_)
     refine Load.here (hbn4.cells.one rfl) ?_
     repeat (first|refine gA ?_|refine gB ?_|refine gC ?_)
     refine Cond.dH (fun a3=>?_) (fun a3=>?_)
     ·refine fail ?_ hkl _ hE4
      rw[hs0,if_neg fun h=>a3 h.2.2]
     ·refine Ar.i64 (by omega) ?_
      refine⟨(k+1,{ s with last:=s.last.set k (-1) }),⟨hE4,by simp only;omega,?_,hord',?_,hbc4,hbd4,hbl4⟩,by simp only;omega,rfl,rfl,rfl,rfl,rfl,rfl,rfl,rfl,trivial⟩
      ·simp only[gW,hrun,Option.bind_some]
       rw[hs0,if_pos ⟨a1,a2,a3⟩]
      ·have h0:=hok.dd
       have h1:=hok.el
       refine⟨hdl,by simp[hll],by have:=hok.top;simp only;omega,fun p h hp=>?_,fun y hy=>?_,by simp only;omega,by simp only;omega⟩
       ·simp only[List.getElem_set]
        split
        ·omega
        ·omega
       ·have:=hok.deep y hy;omega
    ·repeat (first|refine gA ?_|refine gB ?_|refine gC ?_)
     refine Cond.yes (fail ?_ hkl _ hE4)
     rw[hs0,if_neg fun h=>a2 h.2.1]
   ·repeat (first|refine gA ?_|refine gB ?_|refine gC ?_)
    refine Cond.yes (fail ?_ hkl _ hE4)
    rw[hs0,if_neg fun h=>a1 h.1]
  ·repeat (first|refine gA ?_|refine gB ?_|refine gC ?_)
   refine Load.here (hbn4.cells.one rfl) ?_
   repeat (first|refine gA ?_|refine gB ?_|refine gC ?_)
   refine aK.bH (fun a1=>?_) (fun a1=>?_)
   ·repeat (first|refine gA ?_|refine gB ?_|refine gC ?_)
    have hs1:kN t (s.last.set k (-1)) s.top k=true→gW t true (k+1)=some (aD s (s.last.set k (-1)) ⟨kind,name,value,parent⟩ k):=fun h=>hstep h (by simp<;>omega) (by simp<;>omega)
    have hs2:kN t (s.last.set k (-1)) s.top k=false→iC t true s k=none:=fun h=>by
     simp[iC,ho,hnd,h]
     try omega
    clear hstep
    refine aA.mk _ hfits ?_
    rintro v w6 ⟨rfl,hE6⟩
    repeat (first|refine gA ?_|refine gB ?_|refine gC ?_)
    refine Cond.neg (fun hf=>fail (hs2 hf) hkl _ (hE4.trans hE6)) (fun hf=>?_)
    have hrn:=hs1 hf
    have hel0:=hok.el
    have hE6':=hE4.trans hE6
    have hbc6:=hbc4.ext hE6
    have hbd6:=hbd4.ext hE6
    have hbl6:=hbl4.ext hE6
    have hbn6:=hbn4.ext hE6
    clear hs1 hs2 fail hfits
    refine Load.here (hbn6.cells.one rfl) ?_
    obtain⟨d1,hd1⟩:∃d1,d1=(if 0≤parent then s.deep.set k (s.deep.getD parent.toNat 0)else s.deep):=⟨_,rfl⟩
    have hd1l:d1.length=t.length:=by rw[hd1];split<;>simp[hdl]
    have hd1k:0≤d1.getD k 0∧d1.getD k 0≤k:=by
     rw[hd1]
     split
     ·rw[List.getD_eq_getElem?_getD,List.getElem?_set_self (by omega)]
      exact hok.deep _ (lW (by omega))
     ·exact hok.deep _ (lW (by omega))
    have hd1g:d1.getD k 0=d1[k]'(by omega):=by simp[hd1l,hkl]
    refine Cond.dec (fun p0=>?_) (fun p0=>?_)
    ·have hE6d:=Ext.drew w6
     have hb7c:=hbc6.ext hE6d
     have hb7d:=hbd6.ext hE6d
     have hpk:parent.toNat<s.deep.length:=by omega
     refine aQ.script aB mixed (Scr.takes [0,1,2,3,4,5,6,7,8,9,10,11,12,13] (.carry 14 .done)) [14] (by kernel_rfl) (fun w'=>w'=w6.drew) rfl
      (X:=Unit) (fun _=>[(0,.slice o t.length c),(1,.bool true),(5,.pointer (some ⟨bc,0,none⟩)),(6,.int .i64 s.elements),(7,.int .i64 s.deepest),(8,.int .i64 k),(9,.pointer (some ⟨bn,0,none⟩)),(22,.slice o t.length c),(23,.int .i64 t.length),(24,.int .i64 k)])
      (fun _ w'=>mK w6.drew bd (ints (s.deep.set k s.deep[parent.toNat])) 3 w') ?_ ?_
     ·refine Load.here (hb7c.cells.one rfl) ?_
      refine Load.here (hb7c.cells.one rfl) ?_
      refine Load.here ((hbn6.ext hE6d).cells.one rfl) ?_
      refine Idx.mk ⟨bd,0,none⟩ rfl (by omega) (by omega) ?_
      refine Load.here (fG hb7d hpk) ?_
      refine Idx.mk ⟨bd,0,none⟩ rfl (by omega) (by omega) ?_
      refine iM (k:=k) gL hb7d (by omega) fun w7 hU7=>?_
      exact⟨(),hU7,rfl,rfl,rfl,rfl,rfl,rfl,rfl,rfl,rfl,rfl,trivial⟩
     rintro _ w7 hU7
     have hd1':s.deep.set k s.deep[parent.toNat]=d1:=by rw[hd1,if_pos p0];simp[hpk]
     rw[hd1']at hU7
     have hbd7:=hU7.blk
     have hbc7:=hU7.aF hb7c ncd
     have hbl7:=hU7.aF (hbl6.ext hE6d) (Ne.symm ndl)
     have hbn7:=hU7.aF (hbn6.ext hE6d) (by omega)
     have hE7:Ext w w7:=(hE6'.trans hE6d).upd hU7 ld
     refine Load.here (hbn7.cells.one rfl) ?_
     refine Cond.dec (fun k2=>?_) (fun k2=>?_)
     ·refine Load.here (hbc7.cells.one rfl) ?_
      refine Idx.mk ⟨bd,0,none⟩ rfl (by omega) (by omega) ?_
      refine Load.here (fG hbd7 (k:=k) (by omega)) ?_
      refine Ar.i64 (by omega) ?_
      refine Idx.mk ⟨bd,0,none⟩ rfl (by omega) (by omega) ?_
      refine iM (k:=k) gL hbd7 (by omega) fun w8 hU8=>?_
      have hbd8:=hU8.blk
      have hbc8:=hU8.aF hbc7 ncd
      have hbl8:=hU8.aF hbl7 (Ne.symm ndl)
      have hbn8:=hU8.aF hbn7 (by omega)
      have hE8:Ext w w8:=hE7.upd hU8 ld
      have hd2:(aD s (s.last.set k (-1)) ⟨kind,name,value,parent⟩ k).deep=d1.set k (d1[k]'(by omega)+1):=by
       simp only[aD,←hd1,if_pos k2,hd1g]
      have hdd:(aD s (s.last.set k (-1)) ⟨kind,name,value,parent⟩ k).deepest=max s.deepest ((d1.set k (d1[k]'(by omega)+1))[k]'(by simp;omega)):=by
       simp only[aD,←hd1,if_pos k2,hd1g]
       simp[hd1l,hkl]
      refine Load.here (hbc8.cells.one rfl) ?_
      refine Idx.mk ⟨bd,0,none⟩ rfl (by omega) (by omega) ?_
      refine Load.here (fG hbd8 (k:=k) (by simp;omega)) ?_
      refine bD.max2 ?_
      refine Load.here (hbn8.cells.one rfl) ?_
      refine Cond.dec (fun e0=>?_) (fun e0=>?_)
      ·refine Ar.i64 (by omega) ?_
       have hel:(aD s (s.last.set k (-1)) ⟨kind,name,value,parent⟩ k).elements=s.elements+1:=by
        simp only[aD]
        rw[if_pos ⟨k2,e0⟩]
       refine Load.here (hbn8.cells.one rfl) ?_
       refine Cond.dec (fun k3=>absurd k3 (by omega)) (fun k3=>?_)
       refine Load.here (hbn8.cells.one rfl) ?_
       refine Cond.dec (fun p1=>absurd p1 (by omega)) (fun p1=>?_)
       have htp:(aD s (s.last.set k (-1)) ⟨kind,name,value,parent⟩ k).top=s.top:=by simp only[aD,if_neg k3,if_neg p1]
       have hla:(aD s (s.last.set k (-1)) ⟨kind,name,value,parent⟩ k).last=(s.last.set k (-1)).set parent.toNat k:=by simp only[aD,if_neg k3,if_neg p1]
       have hE8d:=Ext.drew w8
       refine aQ.mk aB mixed (allT 0 8++[(8,false)]) [8] (by kernel_rfl) (fun w'=>w'=World.drew w8) rfl ?_
       refine Load.here ((hbc8.ext hE8d).cells.one rfl) ?_
       refine Load.here ((hbn8.ext hE8d).cells.one rfl) ?_
       refine Idx.mk ⟨bl,0,none⟩ rfl (by omega) (by omega) ?_
       refine iM (k:=parent.toNat) gL (hbl8.ext hE8d) (by simp;omega) fun w9 hU9=>?_
       have hbl9:=hU9.blk
       have hbc9:=hU9.aF (hbc8.ext hE8d) ncl
       have hbd9:=hU9.aF (hbd8.ext hE8d) ndl
       have hE9:Ext w w9:=(hE8.trans hE8d).upd hU9 ll
       refine Ar.i64 (by omega) ?_
       refine⟨(k+1,aD s (s.last.set k (-1)) ⟨kind,name,value,parent⟩ k),⟨hE9,by simp only;omega,hrn,hord',hokn,by rw[htp];exact hbc9,by rw[hd2];exact hbd9,by rw[hla];exact hbl9⟩,by simp only;omega,rfl,rfl,rfl,by rw[hel];rfl,by rw[hdd];rfl,rfl,rfl,rfl,trivial⟩
      ·have hel:(aD s (s.last.set k (-1)) ⟨kind,name,value,parent⟩ k).elements=s.elements:=by
        simp only[aD]
        rw[if_neg fun h=>e0 h.2]
       refine Load.here (hbn8.cells.one rfl) ?_
       refine Cond.dec (fun k3=>absurd k3 (by omega)) (fun k3=>?_)
       refine Load.here (hbn8.cells.one rfl) ?_
       refine Cond.dec (fun p1=>?_) (fun p1=>?_)
       ·have htp:(aD s (s.last.set k (-1)) ⟨kind,name,value,parent⟩ k).top=k:=by simp only[aD,if_neg k3,if_pos p1]
        have hla:(aD s (s.last.set k (-1)) ⟨kind,name,value,parent⟩ k).last=s.last.set k (-1):=by simp only[aD,if_neg k3,if_pos p1]
        refine bA.store bc (0+3) _ [.int .i64 k] 154 (bW _ _ _) rfl gL hbc8 (by simp) (by simp[Value.oneCell']) fun w9 hU9=>?_
        have hbc9:bQ w9 bc [.slice o t.length c,.slice (some ⟨bd,0,none⟩) t.length t.length,.slice (some ⟨bl,0,none⟩) t.length t.length,.int .i64 k] 154:=hU9.blk
        have hbd9:=hU9.aF hbd8 (Ne.symm ncd)
        have hbl9:=hU9.aF hbl8 (Ne.symm ncl)
        have hE9:Ext w w9:=hE8.upd hU9 lc
        refine Ar.i64 (by omega) ?_
        refine⟨(k+1,aD s (s.last.set k (-1)) ⟨kind,name,value,parent⟩ k),⟨hE9,by simp only;omega,hrn,hord',hokn,by rw[htp];exact hbc9,by rw[hd2];exact hbd9,by rw[hla];exact hbl9⟩,by simp only;omega,rfl,rfl,rfl,by rw[hel];rfl,by rw[hdd];rfl,rfl,rfl,rfl,trivial⟩
       ·have htp:(aD s (s.last.set k (-1)) ⟨kind,name,value,parent⟩ k).top=s.top:=by simp only[aD,if_neg k3,if_neg p1]
        have hla:(aD s (s.last.set k (-1)) ⟨kind,name,value,parent⟩ k).last=(s.last.set k (-1)).set parent.toNat k:=by simp only[aD,if_neg k3,if_neg p1]
        have hE8d:=Ext.drew w8
        refine aQ.mk aB mixed (allT 0 8++[(8,false)]) [8] (by kernel_rfl) (fun w'=>w'=World.drew w8) rfl ?_
        refine Load.here ((hbc8.ext hE8d).cells.one rfl) ?_
        refine Load.here ((hbn8.ext hE8d).cells.one rfl) ?_
        refine Idx.mk ⟨bl,0,none⟩ rfl (by omega) (by omega) ?_
        refine iM (k:=parent.toNat) gL (hbl8.ext hE8d) (by simp;omega) fun w9 hU9=>?_
        have hbl9:=hU9.blk
        have hbc9:=hU9.aF (hbc8.ext hE8d) ncl
        have hbd9:=hU9.aF (hbd8.ext hE8d) ndl
        have hE9:Ext w w9:=(hE8.trans hE8d).upd hU9 ll
        refine Ar.i64 (by omega) ?_
        refine⟨(k+1,aD s (s.last.set k (-1)) ⟨kind,name,value,parent⟩ k),⟨hE9,by simp only;omega,hrn,hord',hokn,by rw[htp];exact hbc9,by rw[hd2];exact hbd9,by rw[hla];exact hbl9⟩,by simp only;omega,rfl,rfl,rfl,by rw[hel];rfl,by rw[hdd];rfl,rfl,rfl,rfl,trivial⟩
     ·have hbd8:=hbd7
      have hbc8:=hbc7
      have hbl8:=hbl7
      have hbn8:=hbn7
      have hE8:=hE7
      have hd2:(aD s (s.last.set k (-1)) ⟨kind,name,value,parent⟩ k).deep=d1:=by
       simp only[aD,←hd1,if_neg k2]
      have hdd:(aD s (s.last.set k (-1)) ⟨kind,name,value,parent⟩ k).deepest=s.deepest:=by
       simp only[aD,if_neg k2]
      have hel:(aD s (s.last.set k (-1)) ⟨kind,name,value,parent⟩ k).elements=s.elements:=by
       simp only[aD]
       rw[if_neg fun h=>k2 h.1]
      refine Load.here (hbn8.cells.one rfl) ?_
      refine Cond.dec (fun k3=>?_) (fun k3=>?_)
      ·refine Ar.i64 (by omega) ?_
       have htp:(aD s (s.last.set k (-1)) ⟨kind,name,value,parent⟩ k).top=s.top:=by simp only[aD,if_pos k3]
       have hla:(aD s (s.last.set k (-1)) ⟨kind,name,value,parent⟩ k).last=s.last.set k (-1):=by simp only[aD,if_pos k3]
       have hbc9:=hbc8
       have hbd9:=hbd8
       have hbl9:=hbl8
       have hE9:=hE8
       refine⟨(k+1,aD s (s.last.set k (-1)) ⟨kind,name,value,parent⟩ k),⟨hE9,by simp only;omega,hrn,hord',hokn,by rw[htp];exact hbc9,by rw[hd2];exact hbd9,by rw[hla];exact hbl9⟩,by simp only;omega,rfl,rfl,rfl,by rw[hel];rfl,by rw[hdd];rfl,rfl,rfl,rfl,trivial⟩
      refine Load.here (hbn8.cells.one rfl) ?_
      refine Cond.dec (fun p1=>?_) (fun p1=>?_)
      ·have htp:(aD s (s.last.set k (-1)) ⟨kind,name,value,parent⟩ k).top=k:=by simp only[aD,if_neg k3,if_pos p1]
       have hla:(aD s (s.last.set k (-1)) ⟨kind,name,value,parent⟩ k).last=s.last.set k (-1):=by simp only[aD,if_neg k3,if_pos p1]
       refine bA.store bc (0+3) _ [.int .i64 k] 154 (bW _ _ _) rfl gL hbc8 (by simp) (by simp[Value.oneCell']) fun w9 hU9=>?_
       have hbc9:bQ w9 bc [.slice o t.length c,.slice (some ⟨bd,0,none⟩) t.length t.length,.slice (some ⟨bl,0,none⟩) t.length t.length,.int .i64 k] 154:=hU9.blk
       have hbd9:=hU9.aF hbd8 (Ne.symm ncd)
       have hbl9:=hU9.aF hbl8 (Ne.symm ncl)
       have hE9:Ext w w9:=hE8.upd hU9 lc
       refine Ar.i64 (by omega) ?_
       refine⟨(k+1,aD s (s.last.set k (-1)) ⟨kind,name,value,parent⟩ k),⟨hE9,by simp only;omega,hrn,hord',hokn,by rw[htp];exact hbc9,by rw[hd2];exact hbd9,by rw[hla];exact hbl9⟩,by simp only;omega,rfl,rfl,rfl,by rw[hel];rfl,by rw[hdd];rfl,rfl,rfl,rfl,trivial⟩
      ·have htp:(aD s (s.last.set k (-1)) ⟨kind,name,value,parent⟩ k).top=s.top:=by simp only[aD,if_neg k3,if_neg p1]
       have hla:(aD s (s.last.set k (-1)) ⟨kind,name,value,parent⟩ k).last=(s.last.set k (-1)).set parent.toNat k:=by simp only[aD,if_neg k3,if_neg p1]
       have hE8d:=Ext.drew w7
       refine aQ.mk aB mixed (allT 0 8++[(8,false)]) [8] (by kernel_rfl) (fun w'=>w'=World.drew w7) rfl ?_
       refine Load.here ((hbc8.ext hE8d).cells.one rfl) ?_
       refine Load.here ((hbn8.ext hE8d).cells.one rfl) ?_
       refine Idx.mk ⟨bl,0,none⟩ rfl (by omega) (by omega) ?_
       refine iM (k:=parent.toNat) gL (hbl8.ext hE8d) (by simp;omega) fun w9 hU9=>?_
       have hbl9:=hU9.blk
       have hbc9:=hU9.aF (hbc8.ext hE8d) ncl
       have hbd9:=hU9.aF (hbd8.ext hE8d) ndl
       have hE9:Ext w w9:=(hE8.trans hE8d).upd hU9 ll
       refine Ar.i64 (by omega) ?_
       refine⟨(k+1,aD s (s.last.set k (-1)) ⟨kind,name,value,parent⟩ k),⟨hE9,by simp only;omega,hrn,hord',hokn,by rw[htp];exact hbc9,by rw[hd2];exact hbd9,by rw[hla];exact hbl9⟩,by simp only;omega,rfl,rfl,rfl,by rw[hel];rfl,by rw[hdd];rfl,rfl,rfl,rfl,trivial⟩
    ·have hd1':s.deep=d1:=by rw[hd1,if_neg p0]
     rw[hd1']at hbd6
     have hbd7:=hbd6
     have hbc7:=hbc6
     have hbl7:=hbl6
     have hbn7:=hbn6
     have hE7:=hE6'
     refine Load.here (hbn7.cells.one rfl) ?_
     refine Cond.dec (fun k2=>?_) (fun k2=>?_)
     ·refine Load.here (hbc7.cells.one rfl) ?_
      refine Idx.mk ⟨bd,0,none⟩ rfl (by omega) (by omega) ?_
      refine Load.here (fG hbd7 (k:=k) (by omega)) ?_
      refine Ar.i64 (by omega) ?_
      refine Idx.mk ⟨bd,0,none⟩ rfl (by omega) (by omega) ?_
      refine iM (k:=k) gL hbd7 (by omega) fun w8 hU8=>?_
      have hbd8:=hU8.blk
      have hbc8:=hU8.aF hbc7 ncd
      have hbl8:=hU8.aF hbl7 (Ne.symm ndl)
      have hbn8:=hU8.aF hbn7 (by omega)
      have hE8:Ext w w8:=hE7.upd hU8 ld
      have hd2:(aD s (s.last.set k (-1)) ⟨kind,name,value,parent⟩ k).deep=d1.set k (d1[k]'(by omega)+1):=by
       simp only[aD,←hd1,if_pos k2,hd1g]
      have hdd:(aD s (s.last.set k (-1)) ⟨kind,name,value,parent⟩ k).deepest=max s.deepest ((d1.set k (d1[k]'(by omega)+1))[k]'(by simp;omega)):=by
       simp only[aD,←hd1,if_pos k2,hd1g]
       simp[hd1l,hkl]
      refine Load.here (hbc8.cells.one rfl) ?_
      refine Idx.mk ⟨bd,0,none⟩ rfl (by omega) (by omega) ?_
      refine Load.here (fG hbd8 (k:=k) (by simp;omega)) ?_
      refine bD.max2 ?_
      refine Load.here (hbn8.cells.one rfl) ?_
      refine Cond.dec (fun e0=>?_) (fun e0=>?_)
      ·refine Ar.i64 (by omega) ?_
       have hel:(aD s (s.last.set k (-1)) ⟨kind,name,value,parent⟩ k).elements=s.elements+1:=by
        simp only[aD]
        rw[if_pos ⟨k2,e0⟩]
       refine Load.here (hbn8.cells.one rfl) ?_
       refine Cond.dec (fun k3=>absurd k3 (by omega)) (fun k3=>?_)
       refine Load.here (hbn8.cells.one rfl) ?_
       refine Cond.dec (fun p1=>absurd p1 (by omega)) (fun p1=>?_)
       have htp:(aD s (s.last.set k (-1)) ⟨kind,name,value,parent⟩ k).top=s.top:=by simp only[aD,if_neg k3,if_neg p1]
       have hla:(aD s (s.last.set k (-1)) ⟨kind,name,value,parent⟩ k).last=(s.last.set k (-1)).set parent.toNat k:=by simp only[aD,if_neg k3,if_neg p1]
       have hE8d:=Ext.drew w8
       refine aQ.mk aB mixed (allT 0 8++[(8,false)]) [8] (by kernel_rfl) (fun w'=>w'=World.drew w8) rfl ?_
       refine Load.here ((hbc8.ext hE8d).cells.one rfl) ?_
       refine Load.here ((hbn8.ext hE8d).cells.one rfl) ?_
       refine Idx.mk ⟨bl,0,none⟩ rfl (by omega) (by omega) ?_
       refine iM (k:=parent.toNat) gL (hbl8.ext hE8d) (by simp;omega) fun w9 hU9=>?_
       have hbl9:=hU9.blk
       have hbc9:=hU9.aF (hbc8.ext hE8d) ncl
       have hbd9:=hU9.aF (hbd8.ext hE8d) ndl
       have hE9:Ext w w9:=(hE8.trans hE8d).upd hU9 ll
       refine Ar.i64 (by omega) ?_
       refine⟨(k+1,aD s (s.last.set k (-1)) ⟨kind,name,value,parent⟩ k),⟨hE9,by simp only;omega,hrn,hord',hokn,by rw[htp];exact hbc9,by rw[hd2];exact hbd9,by rw[hla];exact hbl9⟩,by simp only;omega,rfl,rfl,rfl,by rw[hel];rfl,by rw[hdd];rfl,rfl,rfl,rfl,trivial⟩
      ·have hel:(aD s (s.last.set k (-1)) ⟨kind,name,value,parent⟩ k).elements=s.elements:=by
        simp only[aD]
        rw[if_neg fun h=>e0 h.2]
       refine Load.here (hbn8.cells.one rfl) ?_
       refine Cond.dec (fun k3=>absurd k3 (by omega)) (fun k3=>?_)
       refine Load.here (hbn8.cells.one rfl) ?_
       refine Cond.dec (fun p1=>?_) (fun p1=>?_)
       ·have htp:(aD s (s.last.set k (-1)) ⟨kind,name,value,parent⟩ k).top=k:=by simp only[aD,if_neg k3,if_pos p1]
        have hla:(aD s (s.last.set k (-1)) ⟨kind,name,value,parent⟩ k).last=s.last.set k (-1):=by simp only[aD,if_neg k3,if_pos p1]
        refine bA.store bc (0+3) _ [.int .i64 k] 154 (bW _ _ _) rfl gL hbc8 (by simp) (by simp[Value.oneCell']) fun w9 hU9=>?_
        have hbc9:bQ w9 bc [.slice o t.length c,.slice (some ⟨bd,0,none⟩) t.length t.length,.slice (some ⟨bl,0,none⟩) t.length t.length,.int .i64 k] 154:=hU9.blk
        have hbd9:=hU9.aF hbd8 (Ne.symm ncd)
        have hbl9:=hU9.aF hbl8 (Ne.symm ncl)
        have hE9:Ext w w9:=hE8.upd hU9 lc
        refine Ar.i64 (by omega) ?_
        refine⟨(k+1,aD s (s.last.set k (-1)) ⟨kind,name,value,parent⟩ k),⟨hE9,by simp only;omega,hrn,hord',hokn,by rw[htp];exact hbc9,by rw[hd2];exact hbd9,by rw[hla];exact hbl9⟩,by simp only;omega,rfl,rfl,rfl,by rw[hel];rfl,by rw[hdd];rfl,rfl,rfl,rfl,trivial⟩
       ·have htp:(aD s (s.last.set k (-1)) ⟨kind,name,value,parent⟩ k).top=s.top:=by simp only[aD,if_neg k3,if_neg p1]
        have hla:(aD s (s.last.set k (-1)) ⟨kind,name,value,parent⟩ k).last=(s.last.set k (-1)).set parent.toNat k:=by simp only[aD,if_neg k3,if_neg p1]
        have hE8d:=Ext.drew w8
        refine aQ.mk aB mixed (allT 0 8++[(8,false)]) [8] (by kernel_rfl) (fun w'=>w'=World.drew w8) rfl ?_
        refine Load.here ((hbc8.ext hE8d).cells.one rfl) ?_
        refine Load.here ((hbn8.ext hE8d).cells.one rfl) ?_
        refine Idx.mk ⟨bl,0,none⟩ rfl (by omega) (by omega) ?_
        refine iM (k:=parent.toNat) gL (hbl8.ext hE8d) (by simp;omega) fun w9 hU9=>?_
        have hbl9:=hU9.blk
        have hbc9:=hU9.aF (hbc8.ext hE8d) ncl
        have hbd9:=hU9.aF (hbd8.ext hE8d) ndl
        have hE9:Ext w w9:=(hE8.trans hE8d).upd hU9 ll
        refine Ar.i64 (by omega) ?_
        refine⟨(k+1,aD s (s.last.set k (-1)) ⟨kind,name,value,parent⟩ k),⟨hE9,by simp only;omega,hrn,hord',hokn,by rw[htp];exact hbc9,by rw[hd2];exact hbd9,by rw[hla];exact hbl9⟩,by simp only;omega,rfl,rfl,rfl,by rw[hel];rfl,by rw[hdd];rfl,rfl,rfl,rfl,trivial⟩
     ·have hbd8:=hbd7
      have hbc8:=hbc7
      have hbl8:=hbl7
      have hbn8:=hbn7
      have hE8:=hE7
      have hd2:(aD s (s.last.set k (-1)) ⟨kind,name,value,parent⟩ k).deep=d1:=by
       simp only[aD,←hd1,if_neg k2]
      have hdd:(aD s (s.last.set k (-1)) ⟨kind,name,value,parent⟩ k).deepest=s.deepest:=by
       simp only[aD,if_neg k2]
      have hel:(aD s (s.last.set k (-1)) ⟨kind,name,value,parent⟩ k).elements=s.elements:=by
       simp only[aD]
       rw[if_neg fun h=>k2 h.1]
      refine Load.here (hbn8.cells.one rfl) ?_
      refine Cond.dec (fun k3=>?_) (fun k3=>?_)
      ·refine Ar.i64 (by omega) ?_
       have htp:(aD s (s.last.set k (-1)) ⟨kind,name,value,parent⟩ k).top=s.top:=by simp only[aD,if_pos k3]
       have hla:(aD s (s.last.set k (-1)) ⟨kind,name,value,parent⟩ k).last=s.last.set k (-1):=by simp only[aD,if_pos k3]
       have hbc9:=hbc8
       have hbd9:=hbd8
       have hbl9:=hbl8
       have hE9:=hE8
       refine⟨(k+1,aD s (s.last.set k (-1)) ⟨kind,name,value,parent⟩ k),⟨hE9,by simp only;omega,hrn,hord',hokn,by rw[htp];exact hbc9,by rw[hd2];exact hbd9,by rw[hla];exact hbl9⟩,by simp only;omega,rfl,rfl,rfl,by rw[hel];rfl,by rw[hdd];rfl,rfl,rfl,rfl,trivial⟩
      refine Load.here (hbn8.cells.one rfl) ?_
      refine Cond.dec (fun p1=>?_) (fun p1=>?_)
      ·have htp:(aD s (s.last.set k (-1)) ⟨kind,name,value,parent⟩ k).top=k:=by simp only[aD,if_neg k3,if_pos p1]
       have hla:(aD s (s.last.set k (-1)) ⟨kind,name,value,parent⟩ k).last=s.last.set k (-1):=by simp only[aD,if_neg k3,if_pos p1]
       refine bA.store bc (0+3) _ [.int .i64 k] 154 (bW _ _ _) rfl gL hbc8 (by simp) (by simp[Value.oneCell']) fun w9 hU9=>?_
       have hbc9:bQ w9 bc [.slice o t.length c,.slice (some ⟨bd,0,none⟩) t.length t.length,.slice (some ⟨bl,0,none⟩) t.length t.length,.int .i64 k] 154:=hU9.blk
       have hbd9:=hU9.aF hbd8 (Ne.symm ncd)
       have hbl9:=hU9.aF hbl8 (Ne.symm ncl)
       have hE9:Ext w w9:=hE8.upd hU9 lc
       refine Ar.i64 (by omega) ?_
       refine⟨(k+1,aD s (s.last.set k (-1)) ⟨kind,name,value,parent⟩ k),⟨hE9,by simp only;omega,hrn,hord',hokn,by rw[htp];exact hbc9,by rw[hd2];exact hbd9,by rw[hla];exact hbl9⟩,by simp only;omega,rfl,rfl,rfl,by rw[hel];rfl,by rw[hdd];rfl,rfl,rfl,rfl,trivial⟩
      ·have htp:(aD s (s.last.set k (-1)) ⟨kind,name,value,parent⟩ k).top=s.top:=by simp only[aD,if_neg k3,if_neg p1]
       have hla:(aD s (s.last.set k (-1)) ⟨kind,name,value,parent⟩ k).last=(s.last.set k (-1)).set parent.toNat k:=by simp only[aD,if_neg k3,if_neg p1]
       have hE8d:=Ext.drew w6
       refine aQ.mk aB mixed (allT 0 8++[(8,false)]) [8] (by kernel_rfl) (fun w'=>w'=World.drew w6) rfl ?_
       refine Load.here ((hbc8.ext hE8d).cells.one rfl) ?_
       refine Load.here ((hbn8.ext hE8d).cells.one rfl) ?_
       refine Idx.mk ⟨bl,0,none⟩ rfl (by omega) (by omega) ?_
       refine iM (k:=parent.toNat) gL (hbl8.ext hE8d) (by simp;omega) fun w9 hU9=>?_
       have hbl9:=hU9.blk
       have hbc9:=hU9.aF (hbc8.ext hE8d) ncl
       have hbd9:=hU9.aF (hbd8.ext hE8d) ndl
       have hE9:Ext w w9:=(hE8.trans hE8d).upd hU9 ll
       refine Ar.i64 (by omega) ?_
       refine⟨(k+1,aD s (s.last.set k (-1)) ⟨kind,name,value,parent⟩ k),⟨hE9,by simp only;omega,hrn,hord',hokn,by rw[htp];exact hbc9,by rw[hd2];exact hbd9,by rw[hla];exact hbl9⟩,by simp only;omega,rfl,rfl,rfl,by rw[hel];rfl,by rw[hdd];rfl,rfl,rfl,rfl,trivial⟩
   ·repeat (first|refine gA ?_|refine gB ?_|refine gC ?_)
    refine Cond.yes (fail ?_ hkl _ hE4)
    have:¬k=0:=by omega
    simp[iC,ho,hnd,this,a1]
end Go.Proofs.YtelffdgcikceaaaGreatDoor
end
section
namespace Go.V
open Go.RowKit (Below)
theorem splice_len{cur:List Value}{o:Nat}{vs:List Value}(h:o+vs.length≤cur.length):(splice cur o vs).length=cur.length:=by
 simp[splice];omega
theorem splice_take{cur:List Value}{o m:Nat}{vs:List Value}(h:o+vs.length≤m)(hm:m≤cur.length):(splice cur o vs).take m=splice (cur.take m) o vs:=by
 apply List.ext_getElem?
 intro i
 unfold splice
 simp only[List.getElem?_take,List.getElem?_append,List.length_append,List.length_take,List.getElem?_drop]
 have e1:min o cur.length=o:=by omega
 have e2:min o (min m cur.length)=o:=by omega
 have e3:min o (List.length (List.take m cur))=o:=by simp;omega
 simp only[e1,e2,e3]
 by_cases h1:i<o
 ·have:i<o+vs.length:=by omega
  have:i<m:=by omega
  simp[*]
 ·by_cases h2:i<o+vs.length
  ·have:i<m:=by omega
   simp[*]
  ·by_cases h3:i<m
   ·have:o+vs.length+(i-(o+vs.length))<m:=by omega
    simp[*]
   ·have:¬o+vs.length+(i-(o+vs.length))<m:=by omega
    simp[*]
theorem splice_cons{x:List Value}{r:List Value}{o:Nat}{vs:List Value}(h:o+vs.length≤x.length):splice (x++r) o vs=splice x o vs++r:=by
 unfold splice
 rw[List.take_append_of_le_length (by omega),List.drop_append_of_le_length (by omega)]
 simp
theorem splice_skip{x:List Value}{r:List Value}{o:Nat}{vs:List Value}:splice (x++r) (x.length+o) vs=x++splice r o vs:=by
 unfold splice
 rw[List.take_length_add_append,show x.length+o+vs.length=x.length+(o+vs.length)by omega,List.drop_length_add_append]
 simp
theorem uT{sz:Nat}{off:Nat}{vs:List Value}(ho:off+vs.length≤sz):∀{xs:List (List Value)} (hl:∀x∈xs,x.length=sz) {k:Nat} (hk:k<xs.length),
  splice xs.flatten (k*sz+off) vs=(xs.set k (splice xs[k] off vs)).flatten
 | [],_,_,hk=>by simp at hk
 | x::r,hl,0,_=>by
   have hx:=hl x List.mem_cons_self
   simp only[List.flatten_cons,List.set_cons_zero,Nat.zero_mul,Nat.zero_add,List.getElem_cons_zero]
   exact splice_cons (by omega)
 | x::r,hl,k+1,hk=>by
   have hx:=hl x List.mem_cons_self
   simp only[List.flatten_cons,List.set_cons_succ,List.getElem_cons_succ]
   rw[show(k+1)*sz+off=x.length+(k*sz+off)by rw[hx,Nat.add_mul];omega,splice_skip,
    uT ho (fun y hy=>hl y (List.mem_cons_of_mem _ hy)) (by simpa using hk)]
theorem Vec.put{w:World}{B e sz:Nat}{v:Value}{xs:List (List Value)}(h:Vec w B e sz v xs){k off:Nat}(hk:k<xs.length)(vs:List Value)(ho:off+vs.length≤sz) :
  ∃g cap cur,v=.slice (some ⟨g,0,none⟩) xs.length cap∧B≤g∧g<w.heap.size∧bQ w g cur e∧k*sz+off+vs.length≤cur.length∧v.ownBlock=some g∧
   ∀w',mK w g (splice cur (k*sz+off) vs) e w'→Vec w' B e sz v (xs.set k (splice xs[k] off vs)):=by
 obtain⟨h1,h2⟩:=h.own
 rcases h2 with ⟨hv,hn⟩|⟨g,cap,cur,hv,hg,hh,hle,hcap,hcur,htake⟩
 ·omega
 have hfl:=eZ h.len
 have hks:k*sz+sz≤xs.length*sz:=by
  have:(k+1)*sz≤xs.length*sz:=Nat.mul_le_mul_right _ hk
  rwa [Nat.add_mul,Nat.one_mul]at this
 have hxc:xs.length*sz≤cap*sz:=Nat.mul_le_mul_right _ hle
 have hcl:cur.toList.length=cap*sz:=by simpa using hcur
 refine⟨g,cap,cur.toList,hv,hg,(Array.getElem?_eq_some_iff.1 hh).1,by simpa [bQ] using hh,by omega,by rw[hv];rfl,fun w' hU=>?_⟩
 have hb:=hU.blk
 have hlx:∀x∈xs.set k (splice xs[k] off vs),x.length=sz:=by
  intro x hx
  rcases List.mem_or_eq_of_mem_set hx with hx|rfl
  ·exact h.len x hx
  ·rw[splice_len (by rw[h.len _ (List.getElem_mem hk)];exact ho)]
   exact h.len _ (List.getElem_mem hk)
 refine⟨⟨?_,.inr ⟨g,cap,(splice cur.toList (k*sz+off) vs).toArray,by rw[hv];simp,hg,hb,by simpa using hle,hcap,?_,?_⟩⟩,hlx⟩
 ·rw[eZ hlx]
 ·simp only[List.size_toArray]
  rw[splice_len (by omega)]
  exact hcl
 ·rw[←uT ho h.len hk,←htake]
  simp only[List.toList_toArray]
  rw[List.length_set]
  exact splice_take (by omega) (by omega)
end Go.V
namespace Go.Proofs.YtelffdgcikceaaaGreatDoor
open Go.V
open Go.RowKit (Below)
theorem Check_con(t:List Nd)(v:Value)(w:World)(ht:aJ w v t)(hG:jV w) :
  bV Tryz.prog 18 #[v] w (fun v' w'=>v'=.int .i64 (eG t true)∧Ext w w'):=by
 refine enter aB Tryz.func18 (aV rfl) rfl rfl rfl ?_
 refine aA.mk _ (all_con t true v w ht hG) ?_
 rintro v w1 ⟨rfl,hE⟩
 exact⟨rfl,hE⟩
theorem xM(t:List Nd)(v:Value)(w:World)(ht:aJ w v t)(hG:jV w) :
  bV Tryz.prog 81 #[v] w (fun v' w'=>v'=.int .i64 (eG t false)∧Ext w w'):=by
 refine enter aB Tryz.func81 (aV rfl) rfl rfl rfl ?_
 refine aA.mk _ (all_con t false v w ht hG) ?_
 rintro v w1 ⟨rfl,hE⟩
 exact⟨rfl,hE⟩
theorem bI:lG Tryz.prog 31 50 4 48:=by
 obtain⟨i,h1,h2,h3,h4⟩:=nW (t:=50) (z:=.agg #[.int .u8 0,.string ⟨#[]⟩,.string ⟨#[]⟩,.int .i64 0]) (m:=4) (b:=48) (by kernel_rfl)
 exact⟨Tryz.underlying31,⟨i,_,h1,h2,h3,h4,rfl⟩,by decide⟩
theorem aY(a b c d:Value)(w:World):(Instr.buildSlice 31 1 #[(0,.agg #[a,b,c,d])]).run Tryz.prog w=.ok (.slice (some ⟨w.heap.size,0,none⟩) 1 1) (w.alloc (.cells #[a,b,c,d] 50)):=by
 kernel_rfl
end Go.Proofs.YtelffdgcikceaaaGreatDoor
end
section
namespace Go.V
theorem Ar.aM{x:Int}{k:Int→Prop}(m:Nat)(e:x=(m:Int))(h:(m:Int)≤9223372036854775807)(hk:k (m:Int)):Ar .i64 x k:=by
 subst e
 exact Ar.i64 (by omega) hk
theorem get_app1{α:Type}(p r:List α)(x:α):(p++x::r)[p.length]? = some x:=by simp
theorem xZ{α:Type}(p m r:List α)(s x:α):(p++s::m++x::r)[p.length+(m.length+1)]? = some x:=by
 have e:p.length+(m.length+1)=(p++s::m).length:=by simp
 rw[e]
 exact get_app1 _ _ _
theorem xY{α:Type}(p m r:List α)(s x:α):(p++s::m++x::r)[p.length]? = some s:=by
 rw[List.append_assoc]
 exact get_app1 _ _ _
end Go.V
namespace Go.Proofs.YtelffdgcikceaaaGreatDoor
open Go.V
open Go.RowKit (Below)
theorem uS:jM Tryz.prog 41 4=true:=by kernel_rfl
theorem _root_.Go.V.Vec.yJ{w:World}{B:Nat}{o:Option Addr}{n c:Nat}{rs:List aR}(hv:Vec w B 41 4 (.slice o n c) (rs.map aR.cells)){k:Nat}{r:aR}(h:rs[k]? = some r) :
  ∃a,o=some a∧Cells w (a.add (k*4)) r.cells:=
 hv.sl.el _ _ _ rfl k r.cells (by rw[List.getElem?_map,h];rfl)
theorem qI{P:Program}{w:World}{B:Nat}{o:Option Addr}{n c:Nat}{rs:List aR}{k:Nat}{a:Addr}{r:aR}{K:World→Prop}(hs:jM P 41 4=true)(h:Vec w B 41 4 (.slice o n c) (rs.map aR.cells))
  (ha:o=some a) (hk:k<rs.length) (h1:r.nodes.oneCell'=true)
  (hK:∀w',Below B w w'→Vec w' B 41 4 (.slice o n c) ((rs.set k r).map aR.cells)→K w') :
  bA P (storeVar 41 (a.add (k*4)) (.agg r.cells.toArray)) w K:=by
 obtain⟨g,cp,cur,hgv,hg1,hg2,hgb,hgl,hgo,hput⟩:=h.put (k:=k) (by simpa using hk) r.cells (off:=0) (by simp[aR.cells])
 simp only[Value.slice.injEq]at hgv
 obtain⟨e1,_,_⟩:=hgv
 rw[e1]at ha
 cases ha
 refine bA.store g (k*4) cur r.cells 41 (by rw[bW,Nat.zero_add]) rfl hs hgb (by simpa [aR.cells] using hgl) (fun u hu=>by
  simp only[aR.cells,List.mem_cons,List.not_mem_nil,or_false]at hu
  rcases hu with rfl|rfl|rfl|rfl
  ·rfl
  ·rfl
  ·rfl
  ·exact h1) fun w' hU=>hK w' (hU.below hg1) ?_
 have:=hput w' (by simpa using hU)
 have hmap:(rs.map aR.cells).set k (splice ((rs.map aR.cells)[k]'(by simpa using hk)) 0 r.cells)=(rs.set k r).map aR.cells:=by
  rw[List.map_set]
  congr 1
  rw[List.getElem_map]
  rfl
 rwa [hmap]at this
def swR{α:Type}(p X m Y q:List α)(k:Nat):List α:=(p++Y.take k)++(X.drop k++m++X.take k)++(Y.drop k++q)
theorem swR_open{α:Type}(p X m Y q:List α){k:Nat}(h:k<X.length)(hl:X.length=Y.length) :
  swR p X m Y q k=(p++Y.take k)++X[k]::(X.drop (k+1)++m++X.take k)++Y[k]'(hl▸h)::(Y.drop (k+1)++q):=by
 have hY:k<Y.length:=hl▸h
 unfold swR
 rw[List.drop_eq_getElem_cons h,List.drop_eq_getElem_cons hY]
 simp only[List.append_assoc,List.cons_append,List.nil_append]
theorem swR_succ{α:Type}(p X m Y q:List α){k:Nat}(h:k<X.length)(hl:X.length=Y.length) :
  swR p X m Y q (k+1)=(p++Y.take k)++Y[k]'(hl▸h)::(X.drop (k+1)++m++X.take k)++X[k]::(Y.drop (k+1)++q):=by
 have hY:k<Y.length:=hl▸h
 unfold swR
 rw[List.take_succ_eq_append_getElem h,List.take_succ_eq_append_getElem hY]
 simp only[List.append_assoc,List.cons_append,List.nil_append]
theorem swR_len{α:Type}(p X m Y q:List α){k:Nat}(h:k≤X.length)(hl:X.length=Y.length):(swR p X m Y q k).length=p.length+X.length+m.length+Y.length+q.length:=by
 simp[swR]
 omega
theorem qY(o:Option Addr)(n c:Nat)(f:Value)(w:World)(B:Nat)(p X m Y q:List aR)(hv:Vec w B 41 4 (.slice o n c) ((p++X++m++Y++q).map aR.cells))(hl:X.length=Y.length)(hn:n≤4611686018427387904)
  (hone:∀r∈X++Y,RWf r) :
  bV Tryz.prog 206 #[.slice o n c,.int .i64 p.length,.int .i64 (p.length+X.length+m.length),.int .i64 X.length,f] w
   (fun v w'=>v=.tuple #[]∧Vec w' B 41 4 (.slice o n c) ((p++Y++m++X++q).map aR.cells)∧Below B w w'):=by
 obtain⟨o',c',hvv,hn1,hn2,hn3,hn4⟩:=hv.shape
 simp only[Value.slice.injEq,List.length_map]at hvv
 obtain⟨rfl,rfl,rfl⟩:=hvv
 have hlen:(p++X++m++Y++q).length=p.length+X.length+m.length+Y.length+q.length:=by simp;omega
 generalize hN:(p++X++m++Y++q).length=N at *
 refine enter aB Tryz.func206 (aV rfl) rfl rfl rfl ?_
 refine aH.mk (X:=Nat) (fun k=>[(0,.slice o N c),(1,.int .i64 p.length),(2,.int .i64 (p.length+X.length+m.length)),(3,.int .i64 X.length),(10,.int .i64 k)])
  (fun k w'=>Below B w w'∧k≤X.length∧Vec w' B 41 4 (.slice o N c) ((swR p X m Y q k).map aR.cells)) (fun k=>X.length-k) 0
  ⟨Below.refl _ _,Nat.zero_le _,by simpa [swR] using hv⟩ ⟨rfl,rfl,rfl,rfl,rfl,trivial⟩ ?_
 rintro k w1 ⟨hB,hk,hv1⟩
 refine Cond.dec (fun g1=>?_) (fun g1=>?_)
 ·have hkX:k<X.length:=by omega
  have hlk:=swR_len p X m Y q hk hl
  rw[swR_open p X m Y q hkX hl]at hv1 hlk
  have el:(p++Y.take k).length=p.length+k:=by simp;omega
  have el2:(X.drop (k+1)++m++X.take k).length+1=X.length+m.length:=by simp;omega
  have hB0:=(Below.refl B w1).drew
  obtain⟨aa,rfl,hca⟩:=hv1.yJ (xY _ _ _ _ _)
  obtain⟨aa',haa,hcb⟩:=hv1.yJ (xZ _ _ _ _ _)
  cases haa
  rw[el]at hca hcb
  rw[el2]at hcb
  have eset:((p++Y.take k++X[k]::(X.drop (k+1)++m++X.take k)++(Y[k]'(hl▸hkX))::(Y.drop (k+1)++q)).set (p.length+k) (Y[k]'(hl▸hkX))).set (p.length+k+(X.length+m.length)) X[k]=swR p X m Y q (k+1):=by
   rw[swR_succ p X m Y q hkX hl,←el2,←el]
   exact swap_app' _ _ _ _ _
  have hx1:=(hone X[k] (List.mem_append_left _ (List.getElem_mem hkX))).one
  have hy1:=(hone (Y[k]'(hl▸hkX)) (List.mem_append_right _ (List.getElem_mem (hl▸hkX)))).one
  have hvd:=hv1.ext (Ext.drew w1)
  generalize hxe:X[k]=x at *
  generalize hye:(Y[k]'(hl▸hkX))=y at *
  have hE1:=Ext.drew w1
  refine aQ.mk aB mixed (allT 0 21++[(21,false),(22,true),(23,false)]) [21,23] (by kernel_rfl) (fun w'=>w'=w1.drew) rfl ?_
  refine Ar.aM (p.length+k) (by omega) (by omega) ?_
  refine Ar.aM (p.length+k+(X.length+m.length)) (by omega) (by omega) ?_
  refine Ar.aM (p.length+k+(X.length+m.length)) (by omega) (by omega) ?_
  refine Idx.mk aa rfl (by omega) (by omega) ?_
  refine Load.here ((hcb.ext hE1).all' rfl) ?_
  refine Ar.aM (p.length+k) (by omega) (by omega) ?_
  refine Idx.mk aa rfl (by omega) (by omega) ?_
  refine Load.here ((hca.ext hE1).all' rfl) ?_
  refine Idx.mk aa rfl (by omega) (by omega) ?_
  refine qI (k:=p.length+k) (r:=y) uS hvd rfl (by omega) hy1 fun w2 hB2 hv2=>?_
  refine Idx.mk aa rfl (by omega) (by omega) ?_
  refine qI (k:=p.length+k+(X.length+m.length)) (r:=x) uS hv2 rfl (by simp only[List.length_set];omega) hx1 fun w3 hB3 hv3=>?_
  refine Ar.aM (k+1) (by omega) (by omega) ?_
  rw[eset]at hv3
  exact⟨k+1,⟨((hB.trans hB0).trans hB2).trans hB3,by omega,hv3⟩,by omega,rfl,rfl,rfl,rfl,rfl,trivial⟩
 ·have:k=X.length:=by omega
  subst this
  refine And.intro rfl (And.intro ?_ hB)
  have e:swR p X m Y q X.length=p++Y++m++X++q:=by
   unfold swR
   rw[List.drop_length,List.take_length,hl,List.drop_length,List.take_length]
   simp
  rw[e]at hv1
  exact hv1
theorem snoc_cases{α:Type}(l:List α):l=[]∨∃A s,l=A++[s]:=by
 rcases List.eq_nil_or_concat l with h|⟨A,s,h⟩
 ·exact .inl h
 ·exact .inr ⟨A,s,by rw[h,List.concat_eq_append]⟩
structure InsOut(X X':List aR)(i:Nat):Prop where
 i1:1≤i
 ile:i≤X.length∨i=1
 len:X'.length=X.length
 srt:kC kx (X'.take i)
 same:Same kx X X'
 wf:∀r∈X',RWf r
theorem InsOut.next{X S1 S2 R:List aR}{x:aR}{i:Nat}(h:Ins kx X i S1 S2 x R)(hl:S1.length+S2.length+1+R.length=X.length)(hw:∀r∈S1++x::S2++R,RWf r)
  (hle:∀s,S1.getLast? = some s→kx s≤kx x):InsOut X (S1++x::S2++R) (i+1):=by
 have hi:=h.len
 refine⟨by omega,.inl (by omega),by simp;omega,?_,h.same,hw⟩
 have e:(S1++x::S2++R).take (i+1)=S1++x::S2:=by
  have:i+1=(S1++x::S2).length:=by simp;omega
  rw[this,List.take_left']
  rfl
 rw[e]
 exact h.stop hle
theorem wK(o:Option Addr)(n c:Nat)(w:World)(B:Nat)(p X q:List aR)(hv:Vec w B 41 4 (.slice o n c) ((p++X++q).map aR.cells))(hn:n≤4611686018427387904)(hwf:∀r∈X,RWf r)(hB0:B≤w.heap.size) :
  bV Tryz.prog 137 #[.slice o n c,.int .i64 p.length,.int .i64 (p.length+X.length),.func (.func 37) #[] #[]] w
   (fun v w'=>∃X',v=.tuple #[]∧Vec w' B 41 4 (.slice o n c) ((p++X'++q).map aR.cells)∧kC kx X'∧Same kx X X'∧X'.length=X.length∧Below B w w'):=by
 obtain⟨o',c',hvv,hn1,hn2,hn3,hn4⟩:=hv.shape
 simp only[Value.slice.injEq,List.length_map]at hvv
 obtain⟨rfl,rfl,rfl⟩:=hvv
 have hlen:(p++X++q).length=p.length+X.length+q.length:=by simp;omega
 generalize hN:(p++X++q).length=N at *
 refine enter aB Tryz.func137 (aV rfl) rfl rfl rfl ?_
 refine Ar.aM (p.length+1) (by omega) (by omega) ?_
 refine aH.mk (X:=Nat × List aR) (fun x=>[(0,.slice o N c),(1,.int .i64 p.length),(2,.int .i64 (p.length+X.length)),(3,.func (.func 37) #[] #[]),(8,.int .i64 (p.length+x.1:Nat))])
  (fun x w'=>Below B w w'∧InsOut X x.2 x.1∧Vec w' B 41 4 (.slice o N c) ((p++x.2++q).map aR.cells)) (fun x=>X.length-x.1) (1,X)
  ⟨Below.refl _ _,⟨Nat.le_refl _,.inr rfl,rfl,(by
   cases X with
   | nil=>exact kC.nil
   | cons x r=>exact kC.one x),Same.refl _,hwf⟩,hv⟩ ⟨rfl,rfl,rfl,rfl,rfl,trivial⟩ ?_
 rintro⟨i,X'⟩ w1 ⟨hB,hI,hv1⟩
 simp only at hI hv1 ⊢
 have hlX:=hI.len
 refine Cond.dec (fun g1=>?_) (fun g1=>?_)
 rotate_left
 ·have e:X'.take i=X':=List.take_of_length_le (by omega)
  have hs:=hI.srt
  rw[e]at hs
  exact⟨X',rfl,hv1,hs,hI.same,hlX,hB⟩
 have hiX:i<X.length:=by omega
 have hiX':i<X'.length:=by omega
 have e0:X'=X'.take i++X'[i]::[]++X'.drop (i+1):=by
  conv=>lhs;rw[←List.take_append_drop i X',List.drop_eq_getElem_cons hiX']
  simp
 have hi1:=hI.i1
 have hst:Ins kx X (X'.take i).length (X'.take i) [] X'[i] (X'.drop (i+1)):=Ins.start hI.srt (by
  have:=hI.same
  rw[e0]at this
  simpa using this)
 have htl:(X'.take i).length=i:=by simp;omega
 have hdl:(X'.drop (i+1)).length=X.length-(i+1):=by simp;omega
 rw[htl]at hst
 have hwf':=hI.wf
 rw[e0]at hwf' hv1
 generalize X'[i]=x at *
 generalize X'.take i=S0 at *
 generalize X'.drop (i+1)=R at *
 refine aH.mk (X:=List aR × List aR) (fun y=>[(0,.slice o N c),(1,.int .i64 p.length),(2,.int .i64 (p.length+X.length)),(3,.func (.func 37) #[] #[]),(8,.int .i64 (p.length+i:Nat)),(9,.int .i64 (p.length+y.1.length:Nat))])
  (fun y w'=>Below B w w'∧Ins kx X i y.1 y.2 x R∧(∀r∈y.1++x::y.2++R,RWf r)∧Vec w' B 41 4 (.slice o N c) ((p++(y.1++x::y.2++R)++q).map aR.cells)) (fun y=>y.1.length) (S0,[])
  ⟨hB,hst,hwf',hv1⟩ ⟨rfl,rfl,rfl,rfl,rfl,by rw[htl];rfl,trivial⟩ ?_
 rintro⟨S1,S2⟩ w2 ⟨hB2,hins,hw2,hv2⟩
 simp only at hins hw2 hv2 ⊢
 have hil:=hins.len
 have hE2:=Ext.drew w2
 refine aQ.mk aB mixed (allT 0 14++[(14,false),(15,true),(16,true)]) [14] (by kernel_rfl) (fun w'=>w'=w2.drew) rfl ?_
 have fin:∀w',Below B w w'→Vec w' B 41 4 (.slice o N c) ((p++(S1++x::S2++R)++q).map aR.cells)→(∀s,S1.getLast? = some s→kx s≤kx x)→
   (Below B w w'∧InsOut X (S1++x::S2++R) (i+1)∧Vec w' B 41 4 (.slice o N c) ((p++(S1++x::S2++R)++q).map aR.cells)):=fun w' h1 h2 h3=>
  ⟨h1,InsOut.next hins (by omega) hw2 h3,h2⟩
 refine aK.bB (fun g2=>?_) (fun g2=>?_)
 rotate_left
 ·repeat (first|refine gA ?_|refine gB ?_|refine gC ?_)
  refine Cond.no ?_
  refine Ar.aM (p.length+(i+1)) (by omega) (by omega) ?_
  exact⟨(i+1,S1++x::S2++R),fin _ (hB2.drew) (hv2.ext hE2) (fun s hs=>by
   have:S1=[]:=List.eq_nil_of_length_eq_zero (by omega)
   rw[this]at hs;cases hs),by omega,rfl,rfl,rfl,rfl,rfl,trivial⟩
 rcases snoc_cases S1 with rfl|⟨A,s,rfl⟩
 ·simp at g2
 have hAl:(A++[s]).length=A.length+1:=by simp
 have e1:p++(A++[s]++x::S2++R)++q=(p++A)++s::[]++x::(S2++R++q):=by simp
 have e2:p++(A++x::(s::S2)++R)++q=(p++A)++x::[]++s::(S2++R++q):=by simp
 have hv2':=hv2
 rw[e1]at hv2
 have el:(p++A).length=p.length+A.length:=by simp
 have hLl:((p++A)++s::[]++x::(S2++R++q)).length=N:=by simp at hlen ⊢;omega
 obtain⟨a0,rfl,hcs⟩:=hv2.yJ (xY _ _ _ _ _)
 obtain⟨ax,hax,hcx⟩:=hv2.yJ (xZ _ _ _ _ _)
 cases hax
 rw[el]at hcs hcx
 have ej:p.length+A.length+(([]:List aR).length+1)=p.length+(A++[s]).length:=by simp;omega
 rw[ej]at hcx
 have hws:=hw2 s (by simp)
 have hwx:=hw2 x (by simp)
 have hsw:=swap_app (p++A) [] (S2++R++q) s x
 rw[el,ej]at hsw
 repeat (first|refine gA ?_|refine gB ?_|refine gC ?_)
 refine Idx.mk a0 rfl (by omega) (by omega) ?_
 repeat (first|refine gA ?_|refine gB ?_|refine gC ?_)
 refine Load.here ((hcx.ext hE2).all' rfl) ?_
 repeat (first|refine gA ?_|refine gB ?_|refine gC ?_)
 refine Ar.aM (p.length+A.length) (by omega) (by omega) ?_
 repeat (first|refine gA ?_|refine gB ?_|refine gC ?_)
 refine Idx.mk a0 rfl (by omega) (by omega) ?_
 repeat (first|refine gA ?_|refine gB ?_|refine gC ?_)
 refine Load.here ((hcs.ext hE2).all' rfl) ?_
 repeat (first|refine gA ?_|refine gB ?_|refine gC ?_)
 refine aA.mk _ (vO x s _ hwx hws) ?_
 rintro v w3 ⟨⟨cc,rfl,hcc⟩,hE3⟩
 repeat (first|refine gA ?_|refine gB ?_|refine gC ?_)
 have hE23:=hE2.trans hE3
 have hB3:Below B w w3:=hB2.drew.trans (hE3.below (by have:=hB2.size;have:=hE2.sz;omega))
 refine Cond.dec (fun g3=>?_) (fun g3=>?_)
 rotate_left
 ·refine Ar.aM (p.length+(i+1)) (by omega) (by omega) ?_
  exact⟨(i+1,A++[s]++x::S2++R),fin _ hB3 (hv2'.ext hE23) (fun s' hs=>by
   rw[List.getLast?_append]at hs
   simp at hs
   subst hs
   omega),by omega,rfl,rfl,rfl,rfl,rfl,trivial⟩
 have hE3d:=hE23.trans (Ext.drew w3)
 have hvd:=hv2.ext hE3d
 refine aQ.mk aB mixed (allT 0 15++[(15,false),(16,true),(17,false)]) [15,17] (by kernel_rfl) (fun w'=>w'=w3.drew) rfl ?_
 refine Ar.aM (p.length+A.length) (by omega) (by omega) ?_
 refine Ar.aM (p.length+A.length) (by omega) (by omega) ?_
 refine Idx.mk a0 rfl (by omega) (by omega) ?_
 refine Load.here ((hcs.ext hE3d).all' rfl) ?_
 refine Idx.mk a0 rfl (by omega) (by omega) ?_
 refine Load.here ((hcx.ext hE3d).all' rfl) ?_
 refine Idx.mk a0 rfl (by omega) (by omega) ?_
 refine qI (k:=p.length+(A++[s]).length) (r:=s) uS hvd rfl (by omega) hws.one fun w4 hB4 hv4=>?_
 refine Idx.mk a0 rfl (by omega) (by omega) ?_
 refine qI (k:=p.length+A.length) (r:=x) uS hv4 rfl (by simp only[List.length_set];omega) hwx.one fun w5 hB5 hv5=>?_
 rw[hsw,←e2]at hv5
 refine Ar.aM (p.length+A.length) (by omega) (by omega) ?_
 refine⟨(A,s::S2),⟨(hB3.drew.trans hB4).trans hB5,hins.step (hcc.1 g3),?_,hv5⟩,by simp,rfl,rfl,rfl,rfl,rfl,rfl,trivial⟩
 intro r hr
 refine hw2 r ?_
 simp only[List.mem_append,List.mem_cons,List.not_mem_nil,or_false]at hr ⊢
 grind
structure p9 where
 D1:List aR
 U:List aR
 V:List aR
 D2:List aR
def p9.list(s:p9):List aR:=s.D1++s.U++s.V++s.D2
def p9.goal(s:p9):List aR:=s.D1++s.V++s.U++s.D2
theorem rotate_con(o:Option Addr)(n c:Nat)(f:Value)(w:World)(B:Nat)(p X Y q:List aR)(hv:Vec w B 41 4 (.slice o n c) ((p++X++Y++q).map aR.cells))(hn:n≤4611686018427387904)
  (hwf:∀r∈X++Y,RWf r) (hX:0<X.length) (hY:0<Y.length) :
  bV Tryz.prog 182 #[.slice o n c,.int .i64 p.length,.int .i64 (p.length+X.length:Nat),.int .i64 (p.length+X.length+Y.length:Nat),f] w
   (fun v w'=>v=.tuple #[]∧Vec w' B 41 4 (.slice o n c) ((p++Y++X++q).map aR.cells)∧Below B w w'):=by
 obtain⟨o',c',hvv,hn1,hn2,hn3,hn4⟩:=hv.shape
 simp only[Value.slice.injEq,List.length_map]at hvv
 obtain⟨rfl,rfl,rfl⟩:=hvv
 have hlen:(p++X++Y++q).length=p.length+X.length+Y.length+q.length:=by simp;omega
 generalize hN:(p++X++Y++q).length=N at *
 refine enter aB Tryz.func182 (aV rfl) rfl rfl rfl ?_
 refine Ar.aM (X.length) (by omega) (by omega) ?_
 refine Ar.aM (Y.length) (by omega) (by omega) ?_
 refine aH.mk (X:=p9) (fun s=>[(0,.slice o N c),(1,.int .i64 p.length),(2,.int .i64 (p.length+X.length:Nat)),(3,.int .i64 (p.length+X.length+Y.length:Nat)),(4,f),(10,.int .i64 s.U.length),(11,.int .i64 s.V.length)])
  (fun s w'=>Below B w w'∧0<s.U.length∧0<s.V.length∧s.D1.length+s.U.length=X.length∧s.V.length+s.D2.length=Y.length∧s.goal=Y++X∧(∀r∈s.list,RWf r)∧
   Vec w' B 41 4 (.slice o N c) ((p++s.list++q).map aR.cells)) (fun s=>s.U.length+s.V.length) ⟨[],X,Y,[]⟩
  ⟨Below.refl _ _,hX,hY,by simp,by simp,by simp[p9.goal],by simpa [p9.list] using hwf,by simpa [p9.list] using hv⟩ ⟨rfl,rfl,rfl,rfl,rfl,rfl,rfl,trivial⟩ ?_
 rintro⟨D1,U,V,D2⟩ w1 ⟨hB,hU,hV,hl1,hl2,hg,hw1,hv1⟩
 simp only[p9.list,p9.goal]at hU hV hl1 hl2 hg hw1 hv1 ⊢
 have hp1:(p++D1).length=p.length+D1.length:=by simp
 refine Cond.dH (fun g1=>?_) (fun g1=>?_)
 ·refine Cond.dec (fun g2=>?_) (fun g2=>?_)
  ·obtain⟨U1,U2,rfl,hU1⟩:∃U1 U2,U=U1++U2∧U1.length=V.length:=⟨U.take V.length,U.drop V.length,(List.take_append_drop _ _).symm,by simp;omega⟩
   have hUl:(U1++U2).length=U1.length+U2.length:=by simp
   have e1:p++(D1++(U1++U2)++V++D2)++q=(p++D1)++U1++U2++V++(D2++q):=by simp
   have e2:p++((D1++V)++U2++U1++D2)++q=(p++D1)++V++U2++U1++(D2++q):=by simp
   rw[e1]at hv1
   have hc:=qY o N c f w1 B (p++D1) U1 U2 V (D2++q) hv1 hU1 hn (fun r hr=>hw1 r (by
    simp only[List.mem_append]at hr ⊢;grind))
   have em:((p++D1).length:Int)+U1.length+U2.length=(p.length+X.length:Nat):=by omega
   rw[em,hU1]at hc
   refine Ar.aM ((p++D1).length) (by omega) (by omega) ?_
   refine aA.mk _ hc ?_
   rintro v w2 ⟨rfl,hv2,hB2⟩
   refine Ar.aM (U2.length) (by omega) (by omega) ?_
   rw[←e2]at hv2
   refine⟨⟨D1++V,U2,U1,D2⟩,⟨hB.trans hB2,by show 0<U2.length;omega,by show 0<U1.length;omega,by simp;omega,by simp;omega,?_,?_,hv2⟩,?_,rfl,rfl,rfl,rfl,rfl,rfl,by rw[←hU1];rfl,trivial⟩
   ·rw[←hg];simp[p9.goal]
   ·intro r hr
    refine hw1 r ?_
    simp only[p9.list,List.mem_append]at hr ⊢
    grind
   ·simp;omega
  ·obtain⟨V1,V2,rfl,hV2⟩:∃V1 V2,V=V1++V2∧V2.length=U.length:=⟨V.take (V.length-U.length),V.drop (V.length-U.length),(List.take_append_drop _ _).symm,by simp;omega⟩
   have hVl:(V1++V2).length=V1.length+V2.length:=by simp
   have e1:p++(D1++U++(V1++V2)++D2)++q=(p++D1)++U++V1++V2++(D2++q):=by simp
   have e2:p++(D1++V2++V1++(U++D2))++q=(p++D1)++V2++V1++U++(D2++q):=by simp
   rw[e1]at hv1
   have hc:=qY o N c f w1 B (p++D1) U V1 V2 (D2++q) hv1 hV2.symm hn (fun r hr=>hw1 r (by
    simp only[List.mem_append]at hr ⊢;grind))
   have em:((p++D1).length:Int)+U.length+V1.length=(p.length+X.length+(V1++V2).length-U.length:Nat):=by omega
   rw[em]at hc
   refine Ar.aM ((p++D1).length) (by omega) (by omega) ?_
   refine Ar.aM (p.length+X.length+(V1++V2).length) (by omega) (by omega) ?_
   refine Ar.aM (p.length+X.length+(V1++V2).length-U.length) (by omega) (by omega) ?_
   refine aA.mk _ hc ?_
   rintro v w2 ⟨rfl,hv2,hB2⟩
   refine Ar.aM (V1.length) (by omega) (by omega) ?_
   rw[←e2]at hv2
   refine⟨⟨D1,V2,V1,U++D2⟩,⟨hB.trans hB2,by show 0<V2.length;omega,by show 0<V1.length;omega,by simp;omega,by simp;omega,?_,?_,hv2⟩,?_,rfl,rfl,rfl,rfl,rfl,by rw[hV2];rfl,rfl,trivial⟩
   ·rw[←hg];simp[p9.goal]
   ·intro r hr
    refine hw1 r ?_
    simp only[p9.list,List.mem_append]at hr ⊢
    grind
   ·simp;omega
 ·have hUV:U.length=V.length:=by omega
  have e1:p++(D1++U++V++D2)++q=(p++D1)++U++[]++V++(D2++q):=by simp
  rw[e1]at hv1
  have hc:=qY o N c f w1 B (p++D1) U [] V (D2++q) hv1 hUV hn (fun r hr=>hw1 r (by
    simp only[List.mem_append]at hr ⊢;grind))
  have em:((p++D1).length:Int)+U.length+([]:List aR).length=(p.length+X.length:Nat):=by simp at hp1 ⊢;omega
  rw[em]at hc
  refine Ar.aM ((p++D1).length) (by omega) (by omega) ?_
  refine aA.mk _ hc ?_
  rintro v w2 ⟨rfl,hv2,hB2⟩
  have e2:(p++D1)++V++[]++U++(D2++q)=p++Y++X++q:=by
   have:p++(D1++V++U++D2)++q=p++Y++X++q:=by rw[hg];simp
   rw[←this];simp
  rw[e2]at hv2
  exact And.intro rfl (And.intro hv2 (hB.trans hB2))
theorem half(x:Nat):((x:Int).fdiv (2 ^ (min (1:Int).toNat IntKind.u64.bits)))=((x / 2:Nat):Int):=by
 show(x:Int).fdiv 2=_
 rw[Int.fdiv_eq_ediv_of_nonneg _ (by decide)]
 omega
theorem take_lt{l:List aR}(h:kC kx l){i:Nat}(hi:i<l.length){k:Int}(hk:kx l[i]<k):∀r∈l.take (i+1),kx r<k:=fun r hr=>by
 obtain⟨j,hj,rfl⟩:=List.mem_take_iff_getElem.1 hr
 by_cases e:j=i
 ·subst e;exact hk
 ·have:=List.pairwise_iff_getElem.1 h j i (by omega) hi (by omega)
  omega
theorem take_le{l:List aR}(h:kC kx l){i:Nat}(hi:i<l.length){k:Int}(hk:kx l[i]≤k):∀r∈l.take (i+1),kx r≤k:=fun r hr=>by
 obtain⟨j,hj,rfl⟩:=List.mem_take_iff_getElem.1 hr
 by_cases e:j=i
 ·subst e;exact hk
 ·have:=List.pairwise_iff_getElem.1 h j i (by omega) hi (by omega)
  omega
theorem drop_ge{l:List aR}(h:kC kx l){i:Nat}(hi:i<l.length){k:Int}(hk:k≤kx l[i]):∀r∈l.drop i,k≤kx r:=fun r hr=>by
 obtain⟨j,hj,rfl⟩:=List.mem_drop_iff_getElem.1 hr
 by_cases e:j=0
 ·subst e;exact hk
 ·have:=List.pairwise_iff_getElem.1 h i (i+j) hi (by omega) (by omega)
  omega
theorem drop_gt{l:List aR}(h:kC kx l){i:Nat}(hi:i<l.length){k:Int}(hk:k<kx l[i]):∀r∈l.drop i,k<kx r:=fun r hr=>by
 obtain⟨j,hj,rfl⟩:=List.mem_drop_iff_getElem.1 hr
 by_cases e:j=0
 ·subst e;exact hk
 ·have:=List.pairwise_iff_getElem.1 h i (i+j) hi (by omega) (by omega)
  omega
def bub(l:List aR)(x:aR)(k:Nat):List aR:=l.take k++x::l.drop k
theorem bub_a(p l q:List aR)(x:aR){k:Nat}(h:k<l.length):p++bub l x k++q=(p++l.take k)++x::[]++l[k]::(l.drop (k+1)++q):=by
 unfold bub
 rw[List.drop_eq_getElem_cons h]
 simp only[List.append_assoc,List.cons_append,List.nil_append]
theorem bub_b(p l q:List aR)(x:aR){k:Nat}(h:k<l.length):p++bub l x (k+1)++q=(p++l.take k)++l[k]::[]++x::(l.drop (k+1)++q):=by
 unfold bub
 rw[List.take_succ_eq_append_getElem h]
 simp only[List.append_assoc,List.cons_append,List.nil_append]
theorem y9{l:List aR}(h:kC kx l)(k:Nat):kC kx (l.take k):=List.Pairwise.sublist (List.take_sublist _ _) h
theorem y8{l:List aR}(h:kC kx l)(k:Nat):kC kx (l.drop k):=List.Pairwise.sublist (List.drop_sublist _ _) h
theorem get_L{p L R q:List aR}{i:Nat}(h:i<L.length):(p++L++R++q)[p.length+i]? = some L[i]:=by
 rw[List.append_assoc,List.append_assoc,List.getElem?_append_right (by omega)]
 have e:p.length+i-p.length=i:=by omega
 rw[e,List.getElem?_append_left h,List.getElem?_eq_getElem h]
theorem get_R{p L R q:List aR}{i:Nat}(h:i<R.length):(p++L++R++q)[p.length+L.length+i]? = some R[i]:=by
 have e0:(p++L).length=p.length+L.length:=by simp
 rw[List.append_assoc,←e0,List.getElem?_append_right (by omega)]
 have e:(p++L).length+i-(p++L).length=i:=by omega
 rw[e,List.getElem?_append_left h,List.getElem?_eq_getElem h]
structure Merged(X M:List aR):Prop where
 srt:kC kx M
 same:Same kx X M
 len:M.length=X.length
theorem merged_left{x:aR}{R:List aR}{t:Nat}(hR:kC kx R)(hlt:∀r∈R.take t,kx r<kx x)(hge:∀r∈R.drop t,kx x≤kx r):Merged ([x]++R) (bub R x t):=by
 have:=merge_cut (key:=kx) (A1:=[]) (A2:=[x]) (B1:=R.take t) (B2:=R.drop t) (M1:=R.take t) (M2:=x::R.drop t) (kC.one x) (by rw[List.take_append_drop];exact hR) (by simp) (fun b hb a ha=>by
  rw[List.mem_singleton.1 ha];exact hlt b hb) (y9 hR t) (Same.refl _) (List.pairwise_cons.2 ⟨hge,y8 hR t⟩) (Same.refl _)
 rw[List.take_append_drop]at this
 refine⟨this.1,this.2,?_⟩
 have h:=congrArg List.length (List.take_append_drop t R)
 simp[bub]at h ⊢
 omega
theorem merged_right{y:aR}{L:List aR}{s:Nat}(hL:kC kx L)(hle:∀r∈L.take s,kx r≤kx y)(hgt:∀r∈L.drop s,kx y<kx r):Merged (L++[y]) (bub L y s):=by
 have:=merge_cut (key:=kx) (A1:=L.take s) (A2:=L.drop s) (B1:=[y]) (B2:=[]) (M1:=L.take s++[y]) (M2:=L.drop s) (by rw[List.take_append_drop];exact hL) (by simpa using kC.one y) (by simp) (fun b hb a ha=>by
  rw[List.mem_singleton.1 hb];exact hgt a ha) (kC.app.2 ⟨y9 hL s,kC.one y,fun a ha b hb=>by rw[List.mem_singleton.1 hb];exact hle a ha⟩) (Same.refl _) (y8 hL s) (by rw[List.append_nil];exact Same.refl _)
 rw[List.take_append_drop]at this
 have e:L.take s++[y]++L.drop s=bub L y s:=by simp[bub]
 rw[e]at this
 refine⟨this.1,by simpa using this.2,?_⟩
 have h:=congrArg List.length (List.take_append_drop s L)
 simp[bub]at h ⊢
 omega
set_option maxHeartbeats 1600000 in
theorem zC(B:Nat)(o:Option Addr)(n c:Nat)(hn:n≤1152921504606846976):∀(fuel:Nat) (p L R q:List aR) (w:World),L.length+R.length≤fuel→Vec w B 41 4 (.slice o n c) ((p++L++R++q).map aR.cells)→
  0<L.length→0<R.length→kC kx L→kC kx R→(∀r∈L++R,RWf r)→B≤w.heap.size→
  bV Tryz.prog 138 #[.slice o n c,.int .i64 p.length,.int .i64 (p.length+L.length:Nat),.int .i64 (p.length+L.length+R.length:Nat),.func (.func 37) #[] #[]] w
   (fun v w'=>∃M,v=.tuple #[]∧Vec w' B 41 4 (.slice o n c) ((p++M++q).map aR.cells)∧Merged (L++R) M∧Below B w w'):=by
 intro fuel
 induction fuel with
 | zero=>intro p L R q w h _ h1;omega
 | succ fuel ih=>
 intro p L R q w hfuel hv hL0 hR0 hL hR hwf hB0
 obtain⟨o',c',hvv,hn1,hn2,hn3,hn4⟩:=hv.shape
 simp only[Value.slice.injEq,List.length_map]at hvv
 obtain⟨rfl,rfl,rfl⟩:=hvv
 have hlen:(p++L++R++q).length=p.length+L.length+R.length+q.length:=by simp;omega
 generalize hN:(p++L++R++q).length=N at *
 refine enter aB Tryz.func138 (aV rfl) rfl rfl rfl ?_
 refine Ar.aM (L.length) (by omega) (by omega) ?_
 refine Cond.dec (fun g1=>?_) (fun g1=>?_)
 ·obtain⟨x,rfl⟩:=List.length_eq_one_iff.1 (show L.length=1 by omega)
  simp only[List.length_cons,List.length_nil]at hfuel hL0 hlen g1 ⊢
  have hwx:=hwf x (by simp)
  obtain⟨a0,rfl,hcx⟩:=hv.yJ (k:=p.length) (r:=x) (by simp)
  refine aH.mk (X:=Nat × Nat) (fun y=>[(0,.slice (some a0) N c),(1,.int .i64 p.length),(2,.int .i64 (p.length+1:Nat)),(3,.int .i64 (p.length+1+R.length:Nat)),(4,.func (.func 37) #[] #[]),(10,.int .i64 (p.length+1+y.1:Nat)),(11,.int .i64 (p.length+1+y.2:Nat))])
   (fun y w'=>Ext w w'∧y.1≤y.2∧y.2≤R.length∧(∀r∈R.take y.1,kx r<kx x)∧(∀r∈R.drop y.2,kx x≤kx r)) (fun y=>y.2-y.1) (0,R.length)
   ⟨Ext.refl _,Nat.zero_le _,Nat.le_refl _,by simp,by simp⟩ ⟨rfl,rfl,rfl,rfl,rfl,rfl,rfl,trivial⟩ ?_
  rintro⟨t,u⟩ w1 ⟨hE1,htu,huR,hlt,hge⟩
  simp only at htu huR hlt hge ⊢
  refine Cond.dec (fun g2=>?_) (fun g2=>?_)
  ·obtain⟨hh,hH,h1,h2⟩:∃hh,(p.length+1+t+(p.length+1+u)) / 2=p.length+1+hh∧t≤hh∧hh<u:=⟨(p.length+1+t+(p.length+1+u)) / 2-(p.length+1),by omega,by omega,by omega⟩
   have hhR:hh<R.length:=by omega
   refine Ar.aM (p.length+1+t+(p.length+1+u)) (by omega) (by omega) ?_;refine Ar.u64 (by omega) ?_;refine Need.mk (by omega) ?_;refine Ar.aM (p.length+1+hh) ((half _).trans (by omega)) (by omega) ?_
   obtain⟨a',ha',hcr⟩:=hv.yJ (k:=p.length+1+hh) (get_R (L:=[x]) hhR)
   cases ha'
   have hE:=hE1.trans (Ext.drew w1)
   refine aQ.mk aB mixed (allT 0 9++[(9,false),(10,true)]) [9] (by kernel_rfl) (fun w'=>w'=w1.drew) rfl ?_
   refine Idx.mk a0 rfl (by omega) (by omega) ?_
   refine Load.here ((hcr.ext hE).all' rfl) ?_
   refine Idx.mk a0 rfl (by omega) (by omega) ?_
   refine Load.here ((hcx.ext hE).all' rfl) ?_
   refine aA.mk _ (vO R[hh] x _ (hwf _ (by simp)) hwx) ?_
   rintro v w2 ⟨⟨cc,rfl,hcc⟩,hE2⟩
   refine Cond.dec (fun g3=>?_) (fun g3=>?_)
   ·refine Ar.aM (p.length+1+(hh+1)) (by omega) (by omega) ?_
    exact⟨(hh+1,u),⟨hE.trans hE2,by show hh+1≤u;omega,huR,take_lt hR hhR (hcc.1 g3),hge⟩,by show u-(hh+1)<u-t;omega,rfl,rfl,rfl,rfl,rfl,rfl,rfl,trivial⟩
   ·have hcc':¬kx R[hh]<kx x:=fun h=>g3 (hcc.2 h)
    exact⟨(t,hh),⟨hE.trans hE2,h1,by show hh≤_;omega,hlt,drop_ge hR hhR (by omega)⟩,by show hh-t<u-t;omega,rfl,rfl,rfl,rfl,rfl,rfl,rfl,trivial⟩
  ·have htu':t=u:=by omega
   subst htu'
   have hv1:=hv.ext hE1
   refine aH.mk (X:=Nat) (fun k=>[(0,.slice (some a0) N c),(10,.int .i64 (p.length+1+t:Nat)),(13,.int .i64 (p.length+k:Nat))])
    (fun k w'=>Below B w w'∧k≤t∧Vec w' B 41 4 (.slice (some a0) N c) ((p++bub R x k++q).map aR.cells)) (fun k=>t-k) 0
    ⟨hE1.below hB0,Nat.zero_le _,by simpa [bub] using hv1⟩ ⟨rfl,rfl,rfl,trivial⟩ ?_
   rintro k w2 ⟨hB2,hkt,hv2⟩
   refine Ar.aM (p.length+t) (by omega) (by omega) ?_
   refine Cond.dec (fun g3=>?_) (fun g3=>?_)
   ·have hkR:k<R.length:=by omega
    have hwk:=hwf R[k] (by simp)
    have hlk:(p++bub R x k++q).length=N:=by simp[bub];omega
    have e2:=bub_b p R q x hkR
    rw[bub_a p R q x hkR]at hv2 hlk
    have el:(p++R.take k).length=p.length+k:=by simp;omega
    have hsw:=swap_app' (p++R.take k) [] (R.drop (k+1)++q) x R[k]
    rw[←e2,el]at hsw
    obtain⟨_,ha1,hc1⟩:=hv2.yJ (xY _ _ _ _ _)
    cases ha1
    obtain⟨_,ha2,hc2⟩:=hv2.yJ (xZ _ _ _ _ _)
    cases ha2
    rw[el]at hc1 hc2
    have hE:=Ext.drew w2
    have hvd:=hv2.ext hE
    refine aQ.mk aB mixed (allT 0 15++[(15,false),(16,true),(17,false)]) [15,17] (by kernel_rfl) (fun w'=>w'=w2.drew) rfl ?_
    refine Ar.aM (p.length+k+1) (by omega) (by omega) ?_
    refine Ar.aM (p.length+k+1) (by omega) (by omega) ?_
    refine Idx.mk a0 rfl (by omega) (by omega) ?_
    refine Load.here ((hc2.ext hE).all' rfl) ?_
    refine Idx.mk a0 rfl (by omega) (by omega) ?_
    refine Load.here ((hc1.ext hE).all' rfl) ?_
    refine Idx.mk a0 rfl (by omega) (by omega) ?_
    refine qI (k:=p.length+k) (r:=R[k]) uS hvd rfl (by omega) hwk.one fun w3 hB3 hv3=>?_
    refine Idx.mk a0 rfl (by omega) (by omega) ?_
    refine qI (k:=p.length+k+1) (r:=x) uS hv3 rfl (by simp only[List.length_set];omega) hwx.one fun w4 hB4 hv4=>?_
    replace hv4:Vec w4 B 41 4 (.slice (some a0) N c) ((((p++R.take k++x::[]++R[k]::(R.drop (k+1)++q)).set (p.length+k) R[k]).set (p.length+k+(([]:List aR).length+1)) x).map aR.cells):=hv4
    rw[hsw]at hv4
    refine Ar.aM (p.length+(k+1)) (by omega) (by omega) ?_
    exact⟨k+1,⟨(hB2.drew.trans hB3).trans hB4,by omega,hv4⟩,by omega,rfl,rfl,rfl,trivial⟩
   ·have hkt':k=t:=by omega
    subst hkt'
    exact⟨bub R x k,rfl,hv2,merged_left hR hlt hge,hB2⟩
 refine Ar.aM (R.length) (by omega) (by omega) ?_
 refine Cond.dec (fun g2=>?_) (fun g2=>?_)
 ·obtain⟨y,rfl⟩:=List.length_eq_one_iff.1 (show R.length=1 by omega)
  simp only[List.length_cons,List.length_nil]at hfuel hR0 hlen g2 ⊢
  have hwy:=hwf y (by simp)
  obtain⟨a0,rfl,hcy⟩:=hv.yJ (k:=p.length+L.length) (r:=y) (get_R (R:=[y]) (i:=0) (by simp))
  refine aH.mk (X:=Nat × Nat) (fun x=>[(0,.slice (some a0) N c),(2,.int .i64 (p.length+L.length:Nat)),(4,.func (.func 37) #[] #[]),(14,.int .i64 (p.length+x.1:Nat)),(15,.int .i64 (p.length+x.2:Nat))])
   (fun x w'=>Ext w w'∧x.1≤x.2∧x.2≤L.length∧(∀r∈L.take x.1,kx r≤kx y)∧(∀r∈L.drop x.2,kx y<kx r)) (fun x=>x.2-x.1) (0,L.length)
   ⟨Ext.refl _,Nat.zero_le _,Nat.le_refl _,by simp,by simp⟩ ⟨rfl,rfl,rfl,rfl,rfl,trivial⟩ ?_
  rintro⟨s,u⟩ w1 ⟨hE1,hsu,huL,hle,hgt⟩
  simp only at hsu huL hle hgt ⊢
  refine Cond.dec (fun g3=>?_) (fun g3=>?_)
  ·obtain⟨hh,hH,h1,h2⟩:∃hh,(p.length+s+(p.length+u)) / 2=p.length+hh∧s≤hh∧hh<u:=⟨(p.length+s+(p.length+u)) / 2-p.length,by omega,by omega,by omega⟩
   have hhL:hh<L.length:=by omega
   refine Ar.aM (p.length+s+(p.length+u)) (by omega) (by omega) ?_;refine Ar.u64 (by omega) ?_;refine Need.mk (by omega) ?_;refine Ar.aM (p.length+hh) ((half _).trans (by omega)) (by omega) ?_
   obtain⟨a',ha',hcl⟩:=hv.yJ (k:=p.length+hh) (get_L hhL)
   cases ha'
   have hE:=hE1.trans (Ext.drew w1)
   refine aQ.mk aB mixed (allT 0 9++[(9,false),(10,true),(11,true)]) [9] (by kernel_rfl) (fun w'=>w'=w1.drew) rfl ?_
   refine Idx.mk a0 rfl (by omega) (by omega) ?_
   refine Load.here ((hcy.ext hE).all' rfl) ?_
   refine Idx.mk a0 rfl (by omega) (by omega) ?_
   refine Load.here ((hcl.ext hE).all' rfl) ?_
   refine aA.mk _ (vO y L[hh] _ hwy (hwf _ (by simp))) ?_
   rintro v w2 ⟨⟨cc,rfl,hcc⟩,hE2⟩
   refine Cond.dH (fun g4=>?_) (fun g4=>?_)
   ·refine Ar.aM (p.length+(hh+1)) (by omega) (by omega) ?_
    have hcc':¬kx y<kx L[hh]:=fun h=>g4 (hcc.2 h)
    exact⟨(hh+1,u),⟨hE.trans hE2,by show hh+1≤u;omega,huL,take_le hL hhL (by omega),hgt⟩,by show u-(hh+1)<u-s;omega,rfl,rfl,rfl,rfl,rfl,trivial⟩
   ·exact⟨(s,hh),⟨hE.trans hE2,h1,by show hh≤_;omega,hle,drop_gt hL hhL (hcc.1 g4)⟩,by show hh-s<u-s;omega,rfl,rfl,rfl,rfl,rfl,trivial⟩
  ·have hsu':s=u:=by omega
   subst hsu'
   have hv1:=hv.ext hE1
   refine aH.mk (X:=Nat) (fun k=>[(0,.slice (some a0) N c),(14,.int .i64 (p.length+s:Nat)),(17,.int .i64 (p.length+k:Nat))])
    (fun k w'=>Below B w w'∧s≤k∧k≤L.length∧Vec w' B 41 4 (.slice (some a0) N c) ((p++bub L y k++q).map aR.cells)) (fun k=>k) L.length
    ⟨hE1.below hB0,huL,Nat.le_refl _,by simpa [bub] using hv1⟩ ⟨rfl,rfl,rfl,trivial⟩ ?_
   rintro k w2 ⟨hB2,hsk,hkL,hv2⟩
   refine Cond.dec (fun g4=>?_) (fun g4=>?_)
   ·obtain⟨j,rfl⟩:∃j,k=j+1:=⟨k-1,by omega⟩
    have hjL:j<L.length:=by omega
    have hwj:=hwf L[j] (by simp)
    have hlk:(p++bub L y (j+1)++q).length=N:=by simp[bub];omega
    have e2:=bub_a p L q y hjL
    rw[bub_b p L q y hjL]at hv2 hlk
    have el:(p++L.take j).length=p.length+j:=by simp;omega
    have hsw:=swap_app (p++L.take j) [] (L.drop (j+1)++q) L[j] y
    rw[←e2,el]at hsw
    obtain⟨_,ha1,hc1⟩:=hv2.yJ (xY _ _ _ _ _)
    cases ha1
    obtain⟨_,ha2,hc2⟩:=hv2.yJ (xZ _ _ _ _ _)
    cases ha2
    rw[el]at hc1 hc2
    have hE:=Ext.drew w2
    have hvd:=hv2.ext hE
    refine aQ.mk aB mixed (allT 0 15++[(15,false),(16,true),(17,false)]) [15,17] (by kernel_rfl) (fun w'=>w'=w2.drew) rfl ?_
    refine Ar.aM (p.length+j) (by omega) (by omega) ?_
    refine Ar.aM (p.length+j) (by omega) (by omega) ?_
    refine Idx.mk a0 rfl (by omega) (by omega) ?_
    refine Load.here ((hc1.ext hE).all' rfl) ?_
    refine Idx.mk a0 rfl (by omega) (by omega) ?_
    refine Load.here ((hc2.ext hE).all' rfl) ?_
    refine Idx.mk a0 rfl (by omega) (by omega) ?_
    refine qI (k:=p.length+(j+1)) (r:=L[j]) uS hvd rfl (by omega) hwj.one fun w3 hB3 hv3=>?_
    refine Idx.mk a0 rfl (by omega) (by omega) ?_
    refine qI (k:=p.length+j) (r:=y) uS hv3 rfl (by simp only[List.length_set];omega) hwy.one fun w4 hB4 hv4=>?_
    replace hv4:Vec w4 B 41 4 (.slice (some a0) N c) ((((p++L.take j++L[j]::[]++y::(L.drop (j+1)++q)).set (p.length+j+(([]:List aR).length+1)) L[j]).set (p.length+j) y).map aR.cells):=hv4
    rw[hsw]at hv4
    refine Ar.aM (p.length+j) (by omega) (by omega) ?_
    exact⟨j,⟨(hB2.drew.trans hB3).trans hB4,by omega,by omega,hv4⟩,by omega,rfl,rfl,rfl,trivial⟩
   ·have hks:k=s:=by omega
    subst hks
    exact⟨bub L y k,rfl,hv2,merged_right hL hle hgt,hB2⟩
 obtain⟨mid,hmid⟩:∃mid,(p.length+(p.length+L.length+R.length)) / 2=mid:=⟨_,rfl⟩
 refine Ar.aM (p.length+(p.length+L.length+R.length)) (by omega) (by omega) ?_;refine Ar.u64 (by omega) ?_;refine Need.mk (by omega) ?_;refine Ar.aM (mid) ((half _).trans (by omega)) (by omega) ?_
 refine Ar.aM (mid+(p.length+L.length)) (by omega) (by omega) ?_
 refine Cond.join (X:=Nat × Nat) (fun s=>[(0,.slice o N c),(1,.int .i64 p.length),(2,.int .i64 (p.length+L.length:Nat)),(3,.int .i64 (p.length+L.length+R.length:Nat)),(4,.func (.func 37) #[] #[]),(18,.int .i64 mid),(19,.int .i64 (mid+(p.length+L.length):Nat)),(20,.int .i64 s.1),(21,.int .i64 s.2)])
  (fun s w'=>w'=w∧((mid<p.length+L.length∧s.1+(p.length+L.length+R.length)=mid+(p.length+L.length)∧s.2=mid)∨(p.length+L.length≤mid∧s.1=p.length∧s.2=p.length+L.length))) (fun g=>?_) (fun g=>?_) ?_
 ·have g':=of_decide_eq_true g
  refine Ar.aM (mid+(p.length+L.length)-(p.length+L.length+R.length)) (by omega) (by omega) ?_
  exact⟨(mid+(p.length+L.length)-(p.length+L.length+R.length),mid),⟨rfl,.inl ⟨by omega,by show _-_+_=_;omega,rfl⟩⟩,rfl,rfl,rfl,rfl,rfl,rfl,rfl,rfl,rfl,trivial⟩
 ·have g':=of_decide_eq_false g
  exact⟨(p.length,p.length+L.length),⟨rfl,.inr ⟨by omega,rfl,rfl⟩⟩,rfl,rfl,rfl,rfl,rfl,rfl,rfl,rfl,rfl,trivial⟩
 rintro⟨lo,hi⟩ w0 ⟨hw0,hlh⟩
 subst hw0
 simp only at hlh ⊢
 refine Ar.aM (mid+(p.length+L.length)-1) (by omega) (by omega) ?_
 refine aH.mk (X:=Nat × Nat) (fun s=>[(0,.slice o N c),(1,.int .i64 p.length),(2,.int .i64 (p.length+L.length:Nat)),(3,.int .i64 (p.length+L.length+R.length:Nat)),(4,.func (.func 37) #[] #[]),(18,.int .i64 mid),(19,.int .i64 (mid+(p.length+L.length):Nat)),(22,.int .i64 (mid+(p.length+L.length)-1:Nat)),(20,.int .i64 s.1),(21,.int .i64 s.2)])
  (fun s w'=>Ext w0 w'∧lo≤s.1∧s.1≤s.2∧s.2≤hi∧(∀(i j:Nat) (h1:i<L.length) (h2:j<R.length),p.length+i+1=s.1→s.1+j=mid→lo<s.1→kx L[i]≤kx R[j])∧
   (∀(i j:Nat) (h1:i<L.length) (h2:j<R.length),p.length+i=s.2→s.2+j+1=mid→s.2<hi→kx R[j]<kx L[i])) (fun s=>s.2-s.1) (lo,hi)
  ⟨Ext.refl _,Nat.le_refl _,by show lo≤hi;omega,Nat.le_refl _,fun _ _ _ _ _ _ h=>absurd h (Nat.lt_irrefl _),fun _ _ _ _ _ _ h=>absurd h (Nat.lt_irrefl _)⟩ ⟨rfl,rfl,rfl,rfl,rfl,rfl,rfl,rfl,rfl,rfl,trivial⟩ ?_
 rintro⟨st,r⟩ w1 ⟨hE1,hlo,hsr,hhi,hF1,hF2⟩
 simp only at hlo hsr hhi hF1 hF2 ⊢
 refine Cond.dec (fun g3=>?_) (fun g3=>?_)
 ·obtain⟨li,ri,hc1,hc2,h1,h2⟩:∃li ri,(st+r) / 2=p.length+li∧p.length+li+ri+1=mid∧st≤p.length+li∧p.length+li<r:=⟨(st+r) / 2-p.length,mid-1-(st+r) / 2,by omega,by omega,by omega,by omega⟩
  have hli:li<L.length:=by omega
  have hri:ri<R.length:=by omega
  refine Ar.aM (st+r) (by omega) (by omega) ?_;refine Ar.u64 (by omega) ?_;refine Need.mk (by omega) ?_;refine Ar.aM (p.length+li) ((half _).trans (by omega)) (by omega) ?_
  obtain⟨a0,ha0,hcl⟩:=hv.yJ (k:=p.length+li) (get_L hli)
  cases ha0
  obtain⟨_,ha1,hcr⟩:=hv.yJ (k:=p.length+L.length+ri) (get_R hri)
  cases ha1
  have hE:=hE1.trans (Ext.drew w1)
  refine aQ.mk aB mixed (allT 0 11++[(11,false),(12,true),(13,true)]) [11] (by kernel_rfl) (fun w'=>w'=w1.drew) rfl ?_
  refine Ar.aM (p.length+L.length+ri) (by omega) (by omega) ?_
  refine Idx.mk a0 rfl (by omega) (by omega) ?_
  refine Load.here ((hcr.ext hE).all' rfl) ?_
  refine Idx.mk a0 rfl (by omega) (by omega) ?_
  refine Load.here ((hcl.ext hE).all' rfl) ?_
  refine aA.mk _ (vO R[ri] L[li] _ (hwf _ (by simp)) (hwf _ (by simp))) ?_
  rintro v w2 ⟨⟨cc,rfl,hcc⟩,hE2⟩
  refine Cond.dH (fun g4=>?_) (fun g4=>?_)
  ·refine Ar.aM (p.length+li+1) (by omega) (by omega) ?_
   have hcc':¬kx R[ri]<kx L[li]:=fun h=>g4 (hcc.2 h)
   refine⟨(p.length+li+1,r),⟨hE.trans hE2,by show lo≤_+1;omega,by show _+1≤r;omega,hhi,?_,hF2⟩,by show r-(_+1)<r-st;omega,rfl,rfl,rfl,rfl,rfl,rfl,rfl,rfl,rfl,rfl,trivial⟩
   intro i j h1 h2 e1 e2 _
   simp only at e1 e2
   obtain rfl:i=li:=by omega
   obtain rfl:j=ri:=by omega
   omega
  ·refine⟨(st,p.length+li),⟨hE.trans hE2,hlo,by show st≤_;omega,by show _≤hi;omega,hF1,?_⟩,by show p.length+li-st<r-st;omega,rfl,rfl,rfl,rfl,rfl,rfl,rfl,rfl,rfl,rfl,trivial⟩
   intro i j h1 h2 e1 e2 _
   simp only at e1 e2
   obtain rfl:i=li:=by omega
   obtain rfl:j=ri:=by omega
   exact hcc.1 g4
 obtain rfl:st=r:=by omega
 obtain⟨s,rfl⟩:∃s,st=p.length+s:=⟨st-p.length,by omega⟩
 obtain⟨t,rfl⟩:∃t,mid=p.length+s+t:=⟨mid-(p.length+s),by omega⟩
 have hsL:s≤L.length:=by omega
 have htR:t≤R.length:=by omega
 have cle:∀a∈L.take s,∀b∈R.drop t,kx a≤kx b:=cut_le hL hR (fun i j h0=>hF1 (s-1) t i j (by omega) (by omega) (by omega)) hsL
 have clt:∀b∈R.take t,∀a∈L.drop s,kx b<kx a:=cut_lt hL hR (fun i j h0=>hF2 s (t-1) i j (by omega) (by omega) (by omega)) htR
 have lA1:(L.take s).length=s:=by simp;omega
 have lA2:(L.drop s).length=L.length-s:=by simp
 have lB1:(R.take t).length=t:=by simp;omega
 have lB2:(R.drop t).length=R.length-t:=by simp
 have eL:L=L.take s++L.drop s:=(List.take_append_drop _ _).symm
 have eR:R=R.take t++R.drop t:=(List.take_append_drop _ _).symm
 have sA:kC kx (L.take s++L.drop s):=by rw[←eL];exact hL
 have sB:kC kx (R.take t++R.drop t):=by rw[←eR];exact hR
 have sA1:=y9 hL s
 have sA2:=y8 hL s
 have sB1:=y9 hR t
 have sB2:=y8 hR t
 have wA:∀r∈L.take s++R.take t,RWf r:=fun r hr=>hwf r (by
  rcases List.mem_append.1 hr with h|h
  ·exact List.mem_append_left _ (List.mem_of_mem_take h)
  ·exact List.mem_append_right _ (List.mem_of_mem_take h))
 have wB:∀r∈L.drop s++R.drop t,RWf r:=fun r hr=>hwf r (by
  rcases List.mem_append.1 hr with h|h
  ·exact List.mem_append_left _ (List.mem_of_mem_drop h)
  ·exact List.mem_append_right _ (List.mem_of_mem_drop h))
 have wR:∀r∈L.drop s++R.take t,RWf r:=fun r hr=>hwf r (by
  rcases List.mem_append.1 hr with h|h
  ·exact List.mem_append_left _ (List.mem_of_mem_drop h)
  ·exact List.mem_append_right _ (List.mem_of_mem_take h))
 have hv1:=hv.ext hE1
 have hB1:Below B w0 w1:=hE1.below hB0
 have fin:∀(M1 M2:List aR) (w':World),Merged (L.take s++R.take t) M1→Merged (L.drop s++R.drop t) M2→Vec w' B 41 4 (.slice o N c) ((p++M1++M2++q).map aR.cells)→Below B w0 w'→
   ∃M,aC []=.tuple #[]∧Vec w' B 41 4 (.slice o N c) ((p++M++q).map aR.cells)∧Merged (L++R) M∧Below B w0 w':=fun M1 M2 w' m1 m2 hv' hB'=>by
  obtain⟨c1,c2⟩:=merge_cut sA sB cle clt m1.srt m1.same m2.srt m2.same
  rw[←eL,←eR]at c2
  refine⟨M1++M2,rfl,by rw[←List.append_assoc p];exact hv',⟨c1,c2,?_⟩,hB'⟩
  have h1:=m1.len
  have h2:=m2.len
  simp only[List.length_append]at h1 h2 ⊢
  omega
 have no1:(¬0<s∨¬0<t)→Merged (L.take s++R.take t) (L.take s++R.take t):=fun h=>⟨by
  rcases h with h|h
  ·have:L.take s=[]:=List.eq_nil_of_length_eq_zero (by omega)
   rw[this];exact sB1
  ·have:R.take t=[]:=List.eq_nil_of_length_eq_zero (by omega)
   rw[this,List.append_nil];exact sA1,Same.refl _,rfl⟩
 have no2:(¬s<L.length∨¬t<R.length)→Merged (L.drop s++R.drop t) (L.drop s++R.drop t):=fun h=>⟨by
  rcases h with h|h
  ·have:L.drop s=[]:=List.eq_nil_of_length_eq_zero (by omega)
   rw[this];exact sB2
  ·have:R.drop t=[]:=List.eq_nil_of_length_eq_zero (by omega)
   rw[this,List.append_nil];exact sA2,Same.refl _,rfl⟩
 have noR:(¬s<L.length∨¬0<t)→p++L++R++q=p++L.take s++R.take t++(L.drop s++R.drop t++q):=fun h=>by
  conv=>lhs;rw[eL,eR]
  rcases h with h|h
  ·have:L.drop s=[]:=List.eq_nil_of_length_eq_zero (by omega)
   rw[this];simp only[List.append_assoc,List.nil_append,List.append_nil]
  ·have:R.take t=[]:=List.eq_nil_of_length_eq_zero (by omega)
   rw[this];simp only[List.append_assoc,List.nil_append,List.append_nil]
 refine Ar.aM (p.length+L.length+t) (by omega) (by omega) ?_
 refine aK.bB (fun g4=>?_) (fun g4=>?_)
 focus
  repeat (first|refine gA ?_|refine gB ?_|refine gC ?_)
  refine Cond.dec (fun g5=>?_) (fun g5=>?_)
  focus
   have hvr:Vec w1 B 41 4 (.slice o N c) ((p++L.take s++L.drop s++R.take t++(R.drop t++q)).map aR.cells):=by
    have e:p++L.take s++L.drop s++R.take t++(R.drop t++q)=p++L++R++q:=by
     conv=>rhs;rw[eL,eR]
     simp only[List.append_assoc]
    rw[e];exact hv1
   have hc:=rotate_con o N c (.func (.func 37) #[] #[]) w1 B (p++L.take s) (L.drop s) (R.take t) (R.drop t++q) hvr (by omega) wR (by omega) (by omega)
   have k1:(p++L.take s).length=p.length+s:=by simp;omega
   have k2:p.length+s+(L.drop s).length=p.length+L.length:=by omega
   rw[k1,k2,lB1]at hc
   refine aA.mk _ hc ?_
   rintro v w3 ⟨rfl,hv3,hB3⟩
   replace hv3:Vec w3 B 41 4 (.slice o N c) ((p++L.take s++R.take t++(L.drop s++R.drop t++q)).map aR.cells):=by
    have e:p++L.take s++R.take t++(L.drop s++R.drop t++q)=p++L.take s++R.take t++L.drop s++(R.drop t++q):=by simp only[List.append_assoc]
    rw[e];exact hv3
   replace hB3:=hB1.trans hB3
  rotate_left
  focus
   have hv3:=hv1
   rw[noR (.inr (by omega))]at hv3
   have hB3:=hB1
   generalize w1=w3 at *
 rotate_left 2
 focus
  repeat (first|refine gA ?_|refine gB ?_|refine gC ?_)
  refine Cond.no ?_
  have hv3:=hv1
  rw[noR (.inl (by omega))]at hv3
  have hB3:=hB1
  generalize w1=w3 at *
 all_goals
  refine aK.bB (fun g6=>?_) (fun g6=>?_)
  focus
   repeat (first|refine gA ?_|refine gB ?_|refine gC ?_)
   refine Cond.dec (fun g7=>?_) (fun g7=>?_)
   focus
    have hc:=ih p (L.take s) (R.take t) (L.drop s++R.drop t++q) w3 (by omega) hv3 (by omega) (by omega) sA1 sB1 wA (by have:=hB3.size;omega)
    rw[lA1,lB1]at hc
    refine aA.mk _ hc ?_
    rintro v w4 ⟨M1,rfl,hv4,hm1,hB4⟩
    replace hB4:=hB3.trans hB4
   rotate_left
   focus
    obtain⟨M1,hM1⟩:∃M,L.take s++R.take t=M:=⟨_,rfl⟩
    have hm1:=no1 (.inr (by omega))
    have hv4:=hv3
    rw[List.append_assoc p]at hv4
    rw[hM1]at hv4
    have hm1':Merged (L.take s++R.take t) M1:=by
     rw[hM1]at hm1 ⊢;exact hm1
    clear hm1
    have hm1:=hm1'
    have hB4:=hB3
    generalize w3=w4 at *
  rotate_left 2
  focus
   repeat (first|refine gA ?_|refine gB ?_|refine gC ?_)
   refine Cond.no ?_
   obtain⟨M1,hM1⟩:∃M,L.take s++R.take t=M:=⟨_,rfl⟩
   have hm1':Merged (L.take s++R.take t) M1:=by
    have:=no1 (.inl (by omega))
    rw[hM1]at this ⊢;exact this
   have hm1:=hm1'
   have hv4:=hv3
   rw[List.append_assoc p]at hv4
   rw[hM1]at hv4
   have hB4:=hB3
   generalize w3=w4 at *
 all_goals
  have hl1:=hm1.len
  rw[List.length_append,lA1,lB1]at hl1
  refine aK.bB (fun g8=>?_) (fun g8=>?_)
  ·repeat (first|refine gA ?_|refine gB ?_|refine gC ?_)
   refine Cond.dec (fun g9=>?_) (fun g9=>?_)
   ·have hv4':Vec w4 B 41 4 (.slice o N c) ((p++M1++L.drop s++R.drop t++q).map aR.cells):=by
     have e:p++M1++L.drop s++R.drop t++q=p++M1++(L.drop s++R.drop t++q):=by simp only[List.append_assoc]
     rw[e];exact hv4
    have hc:=ih (p++M1) (L.drop s) (R.drop t) q w4 (by omega) hv4' (by omega) (by omega) sA2 sB2 wB (by have:=hB4.size;omega)
    have k1:(p++M1).length=p.length+s+t:=by simp;omega
    have k2:p.length+s+t+(L.drop s).length=p.length+L.length+t:=by omega
    have k3:p.length+L.length+t+(R.drop t).length=p.length+L.length+R.length:=by omega
    rw[k1,k2,k3]at hc
    refine aA.mk _ hc ?_
    rintro v w5 ⟨M2,rfl,hv5,hm2,hB5⟩
    exact fin M1 M2 _ hm1 hm2 hv5 (hB4.trans hB5)
   ·refine fin M1 _ _ hm1 (no2 (.inr (by omega))) ?_ hB4
    have e:p++M1++(L.drop s++R.drop t)++q=p++M1++(L.drop s++R.drop t++q):=by simp only[List.append_assoc]
    rw[e];exact hv4
  ·repeat (first|refine gA ?_|refine gB ?_|refine gC ?_)
   refine Cond.no ?_
   refine fin M1 _ _ hm1 (no2 (.inl (by omega))) ?_ hB4
   have e:p++M1++(L.drop s++R.drop t)++q=p++M1++(L.drop s++R.drop t++q):=by simp only[List.append_assoc]
   rw[e];exact hv4
set_option maxHeartbeats 1600000 in
theorem stable_con(B:Nat)(o:Option Addr)(n c:Nat)(hn:n≤1152921504606846976)(rs:List aR)(w:World)(hv:Vec w B 41 4 (.slice o n c) (rs.map aR.cells))(hwf:∀r∈rs,RWf r)(hB0:B≤w.heap.size) :
  bV Tryz.prog 82 #[.slice o n c,.int .i64 n,.func (.func 37) #[] #[]] w
   (fun v w'=>∃M,v=.tuple #[]∧Vec w' B 41 4 (.slice o n c) (M.map aR.cells)∧Merged rs M∧Below B w w'):=by
 obtain⟨o',c',hvv,hn1,hn2,hn3,hn4⟩:=hv.shape
 simp only[Value.slice.injEq,List.length_map]at hvv
 obtain⟨rfl,rfl,rfl⟩:=hvv
 obtain⟨N,hN⟩:∃N,rs.length=N:=⟨_,rfl⟩
 rw[hN]at hv hn ⊢
 have wfOf:∀l:List aR,Same kx rs l→∀r∈l,RWf r:=fun l h r hr=>hwf r (h.symm.mem hr)
 refine enter aB Tryz.func82 (aV rfl) rfl rfl rfl ?_
 refine aH.mk (X:=List aR × List aR) (fun x=>[(0,.slice o N c),(1,.int .i64 N),(2,.func (.func 37) #[] #[]),(6,.int .i64 20),(7,.int .i64 x.1.length),(8,.int .i64 (x.1.length+20:Nat))])
  (fun x w'=>Below B w w'∧Done kx 20 x.1∧Same kx rs (x.1++x.2)∧x.1.length+x.2.length=N∧Vec w' B 41 4 (.slice o N c) ((x.1++x.2).map aR.cells)) (fun x=>x.2.length) ([],rs)
  ⟨Below.refl _ _,.nil,Same.refl _,by simp[hN],hv⟩ ⟨rfl,rfl,rfl,rfl,rfl,rfl,trivial⟩ ?_
 rintro⟨d,r⟩ w1 ⟨hB1,hd,hs,hl,hv1⟩
 simp only at hd hs hl hv1 ⊢
 refine Cond.dec (fun g1=>?_) (fun g1=>?_)
 ·obtain⟨X,r',rfl,hX⟩:∃X r',r=X++r'∧X.length=20:=⟨r.take 20,r.drop 20,(List.take_append_drop _ _).symm,by simp;omega⟩
  have hv1':=hv1
  rw[←List.append_assoc]at hv1'
  have hc:=wK o N c w1 B d X r' hv1' (by omega) (fun y hy=>wfOf _ hs y (by simp[hy])) (by have:=hB1.size;omega)
  have k1:((d.length:Int)+X.length)=(d.length+20:Nat):=by omega
  rw[k1]at hc
  refine aA.mk _ hc ?_
  rintro v w2 ⟨X',rfl,hv2,hs2,hsm,hl2,hB2⟩
  refine Ar.aM (d.length+20+20) (by omega) (by omega) ?_
  have eX:(d++X').length=d.length+20:=by simp;omega
  refine⟨(d++X',r'),⟨hB1.trans hB2,hd.snoc hs2 (by omega),hs.trans ?_,?_,hv2⟩,?_,rfl,rfl,rfl,rfl,by rw[eX];rfl,by rw[eX];rfl,trivial⟩
  ·rw[←List.append_assoc]
   exact Same.app (Same.app (Same.refl _) hsm) (Same.refl _)
  ·simp at hl ⊢;omega
  ·simp;omega
 have hr20:r.length<20:=by omega
 have hv1':=hv1
 rw[←List.append_nil (d++r)]at hv1'
 have hc:=wK o N c w1 B d r [] hv1' (by omega) (fun y hy=>wfOf _ hs y (by simp[hy])) (by have:=hB1.size;omega)
 have k1:((d.length:Int)+r.length)=N:=by omega
 rw[k1]at hc
 refine aA.mk _ hc ?_
 rintro v w2 ⟨X',rfl,hv2,hs2,hsm,hl2,hB2⟩
 rw[List.append_nil]at hv2
 refine aH.mk (X:=Nat × List aR) (fun x=>[(0,.slice o N c),(1,.int .i64 N),(2,.func (.func 37) #[] #[]),(6,.int .i64 x.1)])
  (fun x w'=>Below B w w'∧20≤x.1∧Blocks kx x.1 x.2∧Same kx rs x.2∧x.2.length=N∧Vec w' B 41 4 (.slice o N c) (x.2.map aR.cells)) (fun x=>N-x.1) (20,d++X')
  ⟨hB1.trans hB2,Nat.le_refl _,hd.blocks (.last hs2 (by omega)),hs.trans (Same.app (Same.refl _) hsm),by simp;omega,hv2⟩ ⟨rfl,rfl,rfl,rfl,trivial⟩ ?_
 clear hv2 hs2 hsm hl2 hB2 hv1 hv1' hc hs hl hd hr20 g1 hB1 k1
 rintro⟨bs,l⟩ w3 ⟨hB3,hbs,hbl,hs,hl,hv3⟩
 simp only at hbs hbl hs hl hv3 ⊢
 refine Cond.dec (fun g1=>?_) (fun g1=>?_)
 rotate_left
 ·exact⟨l,rfl,hv3,⟨hbl.small (by omega),hs,by omega⟩,hB3⟩
 refine Ar.aM (2*bs) (by omega) (by omega) ?_
 refine aH.mk (X:=List aR × List aR) (fun x=>[(0,.slice o N c),(1,.int .i64 N),(2,.func (.func 37) #[] #[]),(6,.int .i64 bs),(7,.int .i64 x.1.length),(8,.int .i64 (x.1.length+2*bs:Nat))])
  (fun x w'=>Below B w w'∧Done kx (2*bs) x.1∧Blocks kx bs x.2∧Same kx rs (x.1++x.2)∧x.1.length+x.2.length=N∧Vec w' B 41 4 (.slice o N c) ((x.1++x.2).map aR.cells)) (fun x=>x.2.length) ([],l)
  ⟨hB3,.nil,hbl,hs,by simp[hl],hv3⟩ ⟨rfl,rfl,rfl,rfl,rfl,by simp only[List.length_nil,Nat.zero_add];rfl,trivial⟩ ?_
 clear hv3 hbl hs hl hB3
 rintro⟨d,r⟩ w4 ⟨hB4,hd,hb,hs,hl,hv4⟩
 simp only at hd hb hs hl hv4 ⊢
 refine Cond.dec (fun g2=>?_) (fun g2=>?_)
 ·obtain⟨t1,t2,r',rfl,h1,h2,s1,s2,hb'⟩:=hb.two (by omega)
  have hv4':=hv4
  rw[←List.append_assoc,←List.append_assoc]at hv4'
  have hc:=zC B o N c hn _ d t1 t2 r' w4 (Nat.le_refl _) hv4' (by omega) (by omega) s1 s2 (fun y hy=>wfOf _ hs y (by simp only[List.mem_append]at hy ⊢;grind)) (by have:=hB4.size;omega)
  have k2:d.length+bs+bs=d.length+2*bs:=by omega
  rw[h1,h2,k2]at hc
  refine Ar.aM (d.length+bs) (by omega) (by omega) ?_
  refine aA.mk _ hc ?_
  rintro v w5 ⟨M,rfl,hv5,hm,hB5⟩
  have hml:=hm.len
  rw[List.length_append,h1,h2]at hml
  have eX:(d++M).length=d.length+2*bs:=by simp;omega
  refine Ar.aM (2*bs) (by omega) (by omega) ?_
  refine Ar.aM (d.length+2*bs+2*bs) (by omega) (by omega) ?_
  refine⟨(d++M,r'),⟨hB4.trans hB5,hd.snoc hm.srt (by omega),hb',hs.trans ?_,?_,hv5⟩,?_,rfl,rfl,rfl,rfl,by rw[eX];rfl,by rw[eX];rfl,trivial⟩
  ·rw[←List.append_assoc]
   exact Same.app (Same.app (Same.refl _) hm.same) (Same.refl _)
  ·simp at hl ⊢;omega
  ·simp;omega
 refine Ar.aM (d.length+bs) (by omega) (by omega) ?_
 refine Cond.join (X:=List aR) (fun s=>[(0,.slice o N c),(1,.int .i64 N),(2,.func (.func 37) #[] #[]),(6,.int .i64 bs)])
  (fun s w'=>Below B w w'∧Blocks kx (2*bs) s∧Same kx rs s∧s.length=N∧Vec w' B 41 4 (.slice o N c) (s.map aR.cells)) (fun g=>?_) (fun g=>?_) ?_
 ·have g3:=of_decide_eq_true g
  obtain⟨t1,t2,rfl,h1,s1,s2⟩:=hb.tail (by omega) (by omega)
  have hl':=hl
  rw[List.length_append]at hl'
  have hv4':=hv4
  rw[←List.append_assoc,←List.append_nil (d++t1++t2)]at hv4'
  have hc:=zC B o N c hn _ d t1 t2 [] w4 (Nat.le_refl _) hv4' (by omega) (by omega) s1 s2 (fun y hy=>wfOf _ hs y (by simp only[List.mem_append]at hy ⊢;grind)) (by have:=hB4.size;omega)
  have k2:d.length+bs+t2.length=N:=by omega
  rw[h1,k2]at hc
  refine aA.mk _ hc ?_
  rintro v w5 ⟨M,rfl,hv5,hm,hB5⟩
  rw[List.append_nil]at hv5
  have hml:=hm.len
  rw[List.length_append]at hml
  exact⟨d++M,⟨hB4.trans hB5,hd.blocks (.last hm.srt (by omega)),hs.trans (Same.app (Same.refl _) hm.same),by simp;omega,hv5⟩,rfl,rfl,rfl,rfl,trivial⟩
 ·have g3:=of_decide_eq_false g
  exact⟨d++r,⟨hB4,hd.blocks (.last (hb.small (by omega)) (by omega)),hs,by simp;omega,hv4⟩,rfl,rfl,rfl,rfl,trivial⟩
 rintro s w6 ⟨hB6,hb6,hs6,hl6,hv6⟩
 refine Ar.aM (2*bs) (by omega) (by omega) ?_
 exact⟨(2*bs,s),⟨hB6,by show 20≤2*bs;omega,hb6,hs6,hl6,hv6⟩,by show N-2*bs<N-bs;omega,rfl,rfl,rfl,rfl,trivial⟩
theorem SortStable_con(B:Nat)(o:Option Addr)(n c:Nat)(hn:n≤1152921504606846976)(rs:List aR)(w:World)(hv:Vec w B 41 4 (.slice o n c) (rs.map aR.cells))(hwf:∀r∈rs,RWf r)(hB0:B≤w.heap.size) :
  bV Tryz.prog 36 #[.slice o n c,.func (.func 37) #[] #[]] w
   (fun v w'=>Vec w' B 41 4 (.slice o n c) ((eH kx rs).map aR.cells)∧Below B w w'):=by
 refine enter aB Tryz.func36 (aV rfl) rfl rfl rfl ?_
 refine aA.mk _ (stable_con B o n c hn rs w hv hwf hB0) ?_
 rintro v w1 ⟨M,rfl,hv1,hm,hB1⟩
 rw[isort_of hm.srt hm.same]at hv1
 exact And.intro hv1 hB1
structure sF where
 out:List Nd
 tt:List Int
def gJ(t:List Nd)(i:Nat):Bool:=decide ((nd t i).kind=4)&&(decide (i+1=t.length)||!decide ((nd t ((i+1:Nat):Int)).parent=i))
def movedN(s:sF)(x:Nd):Nd:={ x with parent:=if 0≤x.parent then s.tt.getD x.parent.toNat 0 else x.parent }
def jD(s:sF)(p:Int):Bool:=decide (0<s.out.length)&&decide ((s.out.getD (s.out.length-1) nd0).kind=4)&&decide ((s.out.getD (s.out.length-1) nd0).parent=p)
def lF(x:Nd)(v:ByteArray):Nd:={ x with value:=x.value++v }
def mstepB(t:List Nd)(s:sF)(i:Nat):Option sF:=
 if fB t i=false then none
 else
  let x:=movedN s (nd t i)
  let tt:=s.tt.set i s.out.length
  some (if gJ t i=true∧x.value=aP then⟨s.out,tt⟩
   else if gJ t i=true∧jD s x.parent=true then⟨s.out.set (s.out.length-1) (lF (s.out.getD (s.out.length-1) nd0) x.value),tt⟩
   else⟨s.out++[x],tt⟩)
def kP(t:List Nd):Nat→Option sF
 | 0=>some ⟨[],List.replicate t.length 0⟩
 | k+1=>(kP t k).bind fun s=>mstepB t s k
def gN(t:List Nd):List Nd:=if 16384<t.length then []else match kP t t.length with
 | none=>[]
 | some s=>s.out
theorem mrunB_none{t:List Nd}{k m:Nat}(h:kP t k=none)(hm:k≤m):kP t m=none:=by
 induction m with
 | zero=>
   have:k=0:=by omega
   subst this;exact h
 | succ m ih=>
   by_cases e:k=m+1
   ·subst e;exact h
   ·simp[kP,ih (by omega)]
theorem run_build154a(o:Option Addr)(n c:Nat)(w:World) :
  (Instr.build 154 #[(0,.slice o n c)]).run Tryz.prog w=.ok (.agg #[.slice o n c,.slice none 0 0,.slice none 0 0,.int .i64 0]) w:=by kernel_rfl
structure xO(s:sF)(k n:Nat):Prop where
 ol:s.out.length≤k
 tl:s.tt.length=n
 tt:∀x∈s.tt,0≤x∧x≤k
 wf:∀x∈s.out,0≤x.kind∧x.kind≤255∧-1≤x.parent∧x.parent≤k∧x.name.size≤140737488355328∧x.value.size≤65536*k
theorem xO.grow{s:sF}{k n:Nat}(h:xO s k n):(∀x∈s.tt.set k s.out.length,0≤x∧x≤(k+1:Nat))∧(s.tt.set k s.out.length).length=n∧
  (∀x∈s.out,0≤x.kind∧x.kind≤255∧-1≤x.parent∧x.parent≤(k+1:Nat)∧x.name.size≤140737488355328∧x.value.size≤65536*(k+1)):=by
 refine⟨fun x hx=>?_,by simp[h.tl],fun x hx=>?_⟩
 ·rcases List.mem_or_eq_of_mem_set hx with hx|rfl
  ·have:=h.tt x hx;omega
  ·have:=h.ol;omega
 ·obtain⟨a1,a2,a3,a4,a5,a6⟩:=h.wf x hx
  exact⟨a1,a2,a3,by omega,a5,by omega⟩
theorem xO.same{s:sF}{k n:Nat}(h:xO s k n):xO ⟨s.out,s.tt.set k s.out.length⟩ (k+1) n:=
 ⟨Nat.le_succ_of_le h.ol,h.grow.2.1,h.grow.1,h.grow.2.2⟩
theorem xO.join{s:sF}{k n:Nat}(h:xO s k n)(hk:0<s.out.length)(v:ByteArray)(hv:v.size≤65536) :
  xO ⟨s.out.set (s.out.length-1) (lF (s.out.getD (s.out.length-1) nd0) v),s.tt.set k s.out.length⟩ (k+1) n:=by
 refine⟨by simp only[List.length_set];exact Nat.le_succ_of_le h.ol,h.grow.2.1,h.grow.1,fun x hx=>?_⟩
 rcases List.mem_or_eq_of_mem_set hx with hx|rfl
 ·exact h.grow.2.2 x hx
 ·have hm:s.out.getD (s.out.length-1) nd0∈s.out:=by
   rw[List.getD_eq_getElem?_getD,List.getElem?_eq_getElem (by omega)]
   exact List.getElem_mem _
  obtain⟨a1,a2,a3,a4,a5,a6⟩:=h.wf _ hm
  refine⟨a1,a2,a3,by show(s.out.getD (s.out.length-1) nd0).parent≤_;omega,a5,?_⟩
  show((s.out.getD (s.out.length-1) nd0).value++v).size≤_
  rw[ByteArray.size_append]
  omega
theorem xO.app{s:sF}{k n:Nat}(h:xO s k n)(x:Nd)(h1:0≤x.kind∧x.kind≤255)(h2:-1≤x.parent∧x.parent≤k)(h3:x.name.size≤140737488355328)(h4:x.value.size≤65536) :
  xO ⟨s.out++[x],s.tt.set k s.out.length⟩ (k+1) n:=by
 refine⟨by simp[h.ol],h.grow.2.1,h.grow.1,fun y hy=>?_⟩
 rcases List.mem_append.1 hy with hy|hy
 ·exact h.grow.2.2 y hy
 ·rw[List.mem_singleton.1 hy]
  exact⟨h1.1,h1.2,h2.1,by omega,h3,by omega⟩
theorem aT{w w':World}{b:Nat}{cs:List Value}{t:TypeId}(h:bO w b cs t w'):eO w' (.slice (some ⟨b,0,none⟩) 1 1) cs.length [cs]:=by
 refine eO.mk' rfl (Nat.le_refl _) (by decide) (fun h=>by cases h) (fun i x hi=>?_)
 match i,hi with
 | 0,hi=>
   cases hi
   exact⟨_,rfl,by rw[Nat.zero_mul,add_zero];exact h.blk.cells⟩
 | i+1,hi=>simp at hi
theorem Merge_con(t:List Nd)(v:Value)(w:World)(ht:aJ w v t)(hval:∀x∈t,x.value.size≤65536) :
  bV Tryz.prog 59 #[v] w (fun v' w'=>Vec w' w.heap.size 50 4 v' ((gN t).map Nd.cells)∧aJ w' v' (gN t)∧Ext w w'):=by
 obtain⟨o,c,rfl,h1,h2,h3,h4⟩:=ht.open_
 have hl:=ht.len
 have empty:∀w',Ext w w'→gN t=[]→(Vec w' w.heap.size 50 4 (aC [Value.slice none 0 0]) ((gN t).map Nd.cells)∧aJ w' (aC [Value.slice none 0 0]) (gN t)∧Ext w w'):=fun w' hE h=>by
  rw[h]
  exact⟨Vec.nil _ _ _ _,⟨eO.nil _ _,by simp,by simp⟩,hE⟩
 refine enter aB Tryz.func59 (aV rfl) rfl rfl rfl ?_
 refine Cond.dec (fun g1=>?_) (fun g1=>?_)
 ·have:16384<t.length:=by omega
  exact empty w (Ext.refl _) (by simp[gN,this])
 refine aG.mk _ _ (run_build154a _ _ _ _) ?_
 refine aG.box [_,_,_,_] rfl fun bc w1 n1=>?_
 refine oJ hl fun bt w2 n2=>?_
 have hlen:t.length≤16384:=by omega
 have s1:=n1.sz;have s2:=n2.sz
 have e1:=n1.b_eq;have e2:=n2.b_eq
 refine aH.mk (X:=Nat × sF × Value) (fun x=>[(0,.slice o t.length c),(3,.pointer (some ⟨bc,0,none⟩)),(4,x.2.2),(5,.slice (some ⟨bt,0,none⟩) t.length t.length),(19,.slice o t.length c),(20,.int .i64 t.length),(21,.int .i64 x.1)])
  (fun x w'=>Ext w w'∧x.1≤t.length∧kP t x.1=some x.2.1∧Ord t x.1∧xO x.2.1 x.1 t.length∧w'.cell? ⟨bc,0,none⟩=some (.slice o t.length c)∧
   bQ w' bt (ints x.2.1.tt) 3∧Vec w' w.heap.size 50 4 x.2.2 (x.2.1.out.map Nd.cells)∧x.2.2.ownBlock≠some bc∧x.2.2.ownBlock≠some bt) (fun x=>t.length-x.1) (0,⟨[],List.replicate t.length 0⟩,.slice none 0 0)
  ⟨n1.ext.trans n2.ext,Nat.zero_le _,rfl,fun j hj=>absurd hj (by simp),⟨by simp,by simp,fun x hx=>by have:=List.eq_of_mem_replicate hx;omega,by simp⟩,
   (by rw[(n1.blk.ext n2.ext).cell];rfl),n2.blk,Vec.nil _ _ _ _,by simp[Value.ownBlock],by simp[Value.ownBlock]⟩ ⟨rfl,rfl,rfl,rfl,rfl,rfl,rfl,trivial⟩ ?_
 rintro⟨k,s,v⟩ w3 ⟨hE3,hk,hrun,hord,hok,hbc,hbt,hvec,nvc,nvt⟩
 simp only at hk hrun hord hok hbc hbt hvec nvc nvt ⊢
 have hml:maxLen=9223372036854775807:=rfl
 have hol:=hok.ol
 have htl:=hok.tl
 refine Cond.dec (fun g2=>?_) (fun g2=>?_)
 rotate_left
 ·have hkl:k=t.length:=by omega
  subst hkl
  have hn:¬16384<t.length:=by omega
  have hm:gN t=s.out:=by simp[gN,hn,hrun]
  have hsl:=hvec.sl
  have hv1:aC [v]=v:=rfl
  show Vec w3 w.heap.size 50 4 (aC [v]) ((gN t).map Nd.cells)∧aJ w3 (aC [v]) (gN t)∧Ext w w3
  rw[hv1,hm]
  refine⟨hvec,⟨hsl,fun x hx=>?_,by omega⟩,hE3⟩
  obtain⟨a1,a2,a3,a4,a5,a6⟩:=hok.wf x hx
  exact⟨⟨a1,a2⟩,⟨by omega,by omega⟩,a5,by omega⟩
 have hkl:k<t.length:=by omega
 have hnd:=eT hkl
 obtain⟨ak,hak,hck⟩:=h4 _ hE3 k hkl
 have hwf:=ht.wf _ (List.getElem_mem hkl)
 have hvl:=hval _ (List.getElem_mem hkl)
 refine Idx.mk ak hak (by omega) (by omega) ?_
 refine Load.here (hck.all' rfl) ?_
 refine aG.alloc _ [.int .u8 0,.string ⟨#[]⟩,.string ⟨#[]⟩,.int .i64 0] mU rfl fun bn w4 hn1=>?_
 generalize t[k]=x at *
 obtain⟨kind,name,value,parent⟩:=x
 refine bA.store bn 0 _ [.int .u8 kind,.string name,.string value,.int .i64 parent] 50 rfl rfl (by kernel_rfl) hn1.blk (by simp) (by simp[Value.oneCell']) fun w5 hn2=>?_
 have hN:=hn1.upd hn2
 have hbnE:=hN.b_eq
 have hbn:bQ w5 bn [.int .u8 kind,.string name,.string value,.int .i64 parent] 50:=hN.blk
 have hE5:=hE3.trans hN.ext
 clear hn1 hn2
 obtain⟨ov,cv,rfl,v1,v2,v3,v4,v5⟩:=hvec.shape
 simp only[List.length_map]at v1 hvec nvc nvt ⊢
 have hbc5:=hN.ext.cell hbc
 have hbt5:=hbt.ext hN.ext
 have hvec5:=hvec.ext hN.ext
 have lt2:=hbt.lt
 refine aA.mk _ (open_con bc k t _ w5 hbc5 (ht.ext hE5) hkl hord.up) ?_
 rintro v' w6 ⟨rfl,rfl⟩
 refine Cond.neg (fun ho=>?_) (fun ho=>?_)
 ·refine empty _ hE5 ?_
  have h1:kP t (k+1)=none:=by simp[kP,hrun,mstepB,ho]
  have hn:¬16384<t.length:=by omega
  simp[gN,hn,mrunB_none h1 (show k+1≤t.length by omega)]
 have hop:=hord.open_ ho
 have hord':=hord.succ ho
 rw[hnd]at hop
 simp only at hop
 have hwk:=hwf.kind
 have hvl:value.size≤65536:=hvl
 obtain⟨p',hp0⟩:∃p',p'=(if 0≤parent then s.tt.getD parent.toNat 0 else parent):=⟨_,rfl⟩
 have hp':-1≤p'∧p'≤k:=by
  rw[hp0]
  split
  ·have:=hok.tt _ (lW (l:=s.tt) (i:=parent.toNat) (by omega));omega
  ·omega
 have hmv:movedN s ⟨kind,name,value,parent⟩=⟨kind,name,value,p'⟩:=by rw[hp0];rfl
 have hms:mstepB t s k=some (if gJ t k=true∧value=aP then⟨s.out,s.tt.set k s.out.length⟩
   else if gJ t k=true∧jD s p'=true then⟨s.out.set (s.out.length-1) (lF (s.out.getD (s.out.length-1) nd0) value),s.tt.set k s.out.length⟩
   else⟨s.out++[⟨kind,name,value,p'⟩],s.tt.set k s.out.length⟩):=by
  unfold mstepB
  rw[if_neg (by simp[ho])]
  simp only[hnd,hmv]
 refine Load.here (hbn.cells.one rfl) ?_
 refine Cond.dec (fun g3=>?_) (fun g3=>?_)
 rotate_left
 have hpp:p'=parent:=by rw[hp0,if_neg g3]
 rw[←hpp]at hbn
 have hE7:=hE5
 have hbc7:=hbc5
 have hbt7:=hbt5
 have hvec7:=hvec5
 have hbn7:=hbn
 obtain⟨w7,rfl⟩:∃w7,w7=w6:=⟨_,rfl⟩
 rotate_left
 have hpt:parent.toNat<s.tt.length:=by omega
 have hpp:s.tt[parent.toNat]=p':=by rw[hp0,if_pos g3];simp[hpt]
 refine Load.here (hbn.cells.one rfl) ?_
 refine Idx.mk ⟨bt,0,none⟩ rfl (by omega) (by omega) ?_
 refine Load.here (fG hbt5 hpt) ?_
 rw[hpp]
 refine bA.store bn (0+3) _ [.int .i64 p'] 50 (bW _ _ _) rfl gL hbn (by simp) (by simp[Value.oneCell']) fun w7 hU=>?_
 have hbn7:bQ w7 bn [.int .u8 kind,.string name,.string value,.int .i64 p'] 50:=hU.blk
 have hvl3:=World.block_lt_of_cell? _ _ hbc
 simp only at hvl3
 have hbc7:w7.cell? ⟨bc,0,none⟩=_:=(hU.cell (by simp;omega)).trans hbc5
 have hbt7:=hU.aF hbt5 (by omega)
 have hvec7:=hvec5.upd hU (fun e=>by have:=(hvec.ge e).2;omega)
 have hE7:=hE5.upd hU (Nat.le_trans hE3.sz (by omega))
 all_goals
  refine Idx.mk ⟨bt,0,none⟩ rfl (by omega) (by omega) ?_
  refine iM (k:=k) gL hbt7 (by omega) fun w8 hU8=>?_
  have hbt8:=hU8.blk
  have hbn8:=hU8.aF hbn7 (by omega)
  have hbtc:bc≠bt:=fun e=>by
   subst e
   rw[hbt7.cell]at hbc7
   rcases hq:(ints s.tt)[0]? with _|q
   ·rw[hq]at hbc7;cases hbc7
   ·rw[hq]at hbc7
    simp only[ints,List.getElem?_map,Option.map_eq_some_iff]at hq
    obtain⟨z,_,rfl⟩:=hq
    cases hbc7
  have hbc8:w8.cell? ⟨bc,0,none⟩=_:=(hU8.cell hbtc).trans hbc7
  have hvec8:=hvec7.upd hU8 nvt
  have hE8:Ext w w8:=hE7.upd hU8 (by have:=Ext.sz n1.ext;omega)
  refine Load.here (hbn8.cells.one rfl) ?_
  refine aK.bB (fun k4=>?_) (fun k4=>?_)
  rotate_left
  ·have ha:gJ t k=false:=by simp[gJ,hnd,k4]
   repeat (first|refine gA ?_|refine gB ?_|refine gC ?_)
   refine Cond.no ?_
   refine Ar.i64 (by omega) ?_
   refine aQ.mk aB mixed (allT 0 23) [] (by kernel_rfl) (fun w'=>w'=World.drew w8) rfl ?_
   repeat (first|refine gA ?_|refine gB ?_|refine gC ?_)
   refine Cond.no ?_
   have hE9:=hE8.trans (Ext.drew w8)
   have hbc9:=(Ext.drew w8).cell hbc8
   have hbt9:=hbt8.ext (Ext.drew w8)
   have hvec9:=hvec8.ext (Ext.drew w8)
   have hbn9:=hbn8.ext (Ext.drew w8)
   generalize World.drew w8=w9 at *
   refine Load.here (hbn9.cells.all' rfl) ?_
   refine aG.mk _ _ (aY _ _ _ _ _) ?_
   have hnw:bO w9 w9.heap.size [.int .u8 kind,.string name,.string value,.int .i64 p'] 50 (w9.alloc (.cells #[.int .u8 kind,.string name,.string value,.int .i64 p'] 50)):=⟨rfl,rfl⟩
   refine bD.append bI w.heap.size (s.out.map Nd.cells) [Nd.cells ⟨kind,name,value,p'⟩] (hvec9.ext hnw.ext) (aT hnw) (by intro y hy;rw[List.mem_singleton.1 hy];exact⟨rfl,Nd.cells_one _⟩)
    (by simp;omega) (by simp;omega) (Nat.le_trans hE9.sz hnw.ext.sz) fun v' wz hva har=>?_
   refine Ar.i64 (by omega) ?_
   have hEa:Ext w wz:=Below.trans (hE9.trans hnw.ext) (har.below (Nat.le_trans hE9.sz hnw.ext.sz) fun b hb=>(hvec9.ge hb).1)
   have hfr:=har.fresh
   have hsz9:=hnw.ext.sz
   have hbc9l:=World.block_lt_of_cell? _ _ hbc9
   have hbt9l:=hbt9.lt
   simp only at hbc9l
   refine⟨(k+1,⟨s.out++[⟨kind,name,value,p'⟩],s.tt.set k s.out.length⟩,v'),⟨hEa,by simp only;omega,?_,hord',hok.app _ hwk hp' hwf.name hvl,?_,har.blk (hbt9.ext hnw.ext) nvt,?_,?_,?_⟩,by simp only;omega,rfl,rfl,rfl,rfl,rfl,rfl,rfl,trivial⟩
   ·simp only[kP,hrun,Option.bind_some]
    rw[hms,if_neg (by simp[ha]),if_neg (by simp[ha])]
   ·have:=har.g.block bc (Nat.lt_of_lt_of_le hbc9l hsz9) (fun e=>nvc e.symm)
    rw[World.cell?_of_block this]
    exact hnw.ext.cell hbc9
   ·rw[List.map_append];exact hva
   ·intro e
    rcases hfr _ e with e|e
    ·exact nvc e
    ·omega
   ·intro e
    rcases hfr _ e with e|e
    ·exact nvt e
    ·omega
  repeat (first|refine gA ?_|refine gB ?_|refine gC ?_)
  refine Ar.i64 (by omega) ?_
  repeat (first|refine gA ?_|refine gB ?_|refine gC ?_)
  refine aK.bH (fun kl=>?_) (fun kl=>?_)
  rotate_left
  ·have ha:gJ t k=true:=by
    have:k+1=t.length:=by omega
    simp[gJ,hnd,k4,this]
   repeat (first|refine gA ?_|refine gB ?_|refine gC ?_)
   refine Load.here (hbn8.cells.one rfl) ?_
   repeat (first|refine gA ?_|refine gB ?_|refine gC ?_)
   refine Cond.dec (fun v0=>?_) (fun v0=>?_)
   ·refine Ar.i64 (by omega) ?_
    refine⟨(k+1,⟨s.out,s.tt.set k s.out.length⟩,.slice ov s.out.length cv),⟨hE8,by simp only;omega,?_,hord',hok.same,hbc8,hbt8,hvec8,nvc,nvt⟩,by simp only;omega,rfl,rfl,rfl,rfl,rfl,rfl,rfl,trivial⟩
    simp only[kP,hrun,Option.bind_some]
    rw[hms,if_pos ⟨ha,v0⟩]
   have v0':¬value=aP:=v0
   refine Ar.i64 (by omega) ?_
   refine aQ.mk aB mixed (allT 0 23) [] (by kernel_rfl) (fun w'=>w'=World.drew w8) rfl ?_
   have hE9:=hE8.trans (Ext.drew w8)
   have hbc9:=(Ext.drew w8).cell hbc8
   have hbt9:=hbt8.ext (Ext.drew w8)
   have hvec9:=hvec8.ext (Ext.drew w8)
   have hbn9:=hbn8.ext (Ext.drew w8)
   generalize World.drew w8=w9 at *
   repeat (first|refine gA ?_|refine gB ?_|refine gC ?_)
   refine aK.bB (fun q1=>?_) (fun q1=>?_)
   ·have hlo:0<s.out.length:=by omega
    have hi1:((s.out.length:Int)-1).toNat=s.out.length-1:=by omega
    have hel9:El w9 ov 4 (s.out.map Nd.cells):=hvec9.sl.el _ _ _ rfl
    have hlast:s.out[s.out.length-1]'(by omega)=s.out.getD (s.out.length-1) nd0:=by rw[List.getD_eq_getElem?_getD,List.getElem?_eq_getElem (by omega)];rfl
    obtain⟨a,ha1,hca⟩:=hel9 (s.out.length-1) (Nd.cells (s.out.getD (s.out.length-1) nd0)) (by rw[List.getElem?_map,List.getElem?_eq_getElem (by omega),hlast];rfl)
    have hjj:jD s p'=(decide ((s.out.getD (s.out.length-1) nd0).kind=4)&&decide ((s.out.getD (s.out.length-1) nd0).parent=p')):=by
     unfold jD
     rw[decide_eq_true hlo,Bool.true_and]
    repeat (first|refine gA ?_|refine gB ?_|refine gC ?_)
    refine Idx.mk a ha1 (by omega) (by omega) ?_
    rw[hi1]
    repeat (first|refine gA ?_|refine gB ?_|refine gC ?_)
    refine Load.here (hca.one rfl) ?_
    repeat (first|refine gA ?_|refine gB ?_|refine gC ?_)
    refine aK.bB (fun q2=>?_) (fun q2=>?_)
    ·repeat (first|refine gA ?_|refine gB ?_|refine gC ?_)
     refine Idx.mk a ha1 (by omega) (by omega) ?_
     rw[hi1]
     repeat (first|refine gA ?_|refine gB ?_|refine gC ?_)
     refine Load.here (hca.one rfl) ?_
     repeat (first|refine gA ?_|refine gB ?_|refine gC ?_)
     refine Load.here (hbn9.cells.one rfl) ?_
     repeat (first|refine gA ?_|refine gB ?_|refine gC ?_)
     refine Cond.dec (fun q3=>?_) (fun q3=>?_)
     ·have hj:jD s p'=true:=by rw[hjj,decide_eq_true q2,decide_eq_true q3];rfl
      clear hca ha1
      have hil:s.out.length-1<(s.out.map Nd.cells).length:=by simp;omega
      have hE9d:=Ext.drew w9
      obtain⟨g,cp,cur,hgv,hg1,hg2,hgb,hgl,hgo,hput⟩:=(hvec9.ext hE9d).put hil [.string ((s.out.getD (s.out.length-1) nd0).value++value)] (off:=2) (by simp)
      simp only[Value.slice.injEq]at hgv
      obtain⟨rfl,_,rfl⟩:=hgv
      obtain⟨a,ha1,hca⟩:=hel9 (s.out.length-1) (Nd.cells (s.out.getD (s.out.length-1) nd0)) (by rw[List.getElem?_map,List.getElem?_eq_getElem (by omega),hlast];rfl)
      cases ha1
      have hwl:=(hok.wf (s.out.getD (s.out.length-1) nd0) (by rw[←hlast];exact List.getElem_mem _)).2.2.2.2.2
      refine aQ.mk aB mixed (allT 0 10++[(10,false)]) [10] (by kernel_rfl) (fun w'=>w'=World.drew w9) rfl ?_
      refine Idx.mk ⟨g,0,none⟩ rfl (by omega) (by omega) ?_
      rw[hi1]
      refine Load.here ((hca.ext hE9d).one rfl) ?_
      refine Load.here ((hbn9.ext hE9d).cells.one rfl) ?_
      refine Need.mk (by omega) ?_
      refine Idx.mk ⟨g,0,none⟩ rfl (by omega) (by omega) ?_
      rw[hi1]
      refine bA.store g ((s.out.length-1)*4+2) cur [.string ((s.out.getD (s.out.length-1) nd0).value++value)] 50 (by rw[bW,bW,Nat.zero_add]) rfl (by kernel_rfl) hgb hgl (by simp[Value.oneCell']) fun wz hU=>?_
      have hva:=hput wz hU
      have hmap:(s.out.map Nd.cells).set (s.out.length-1) (splice (s.out.map Nd.cells)[s.out.length-1] 2 [.string ((s.out.getD (s.out.length-1) nd0).value++value)])=(s.out.set (s.out.length-1) (lF (s.out.getD (s.out.length-1) nd0) value)).map Nd.cells:=by
       rw[List.map_set]
       congr 1
       rw[List.getElem_map,hlast]
       rfl
      rw[hmap]at hva
      refine Ar.i64 (by omega) ?_
      have hgc:g≠bc:=fun e=>nvc (by rw[hgo,e])
      have hgt:g≠bt:=fun e=>nvt (by rw[hgo,e])
      refine⟨(k+1,⟨s.out.set (s.out.length-1) (lF (s.out.getD (s.out.length-1) nd0) value),s.tt.set k s.out.length⟩,.slice (some ⟨g,0,none⟩) s.out.length cv),⟨(hE9.trans hE9d).upd hU hg1,by simp only;omega,?_,hord',hok.join hlo value hvl,?_,hU.aF (hbt9.ext hE9d) (Ne.symm hgt),hva,nvc,nvt⟩,by simp only;omega,rfl,rfl,rfl,rfl,rfl,rfl,rfl,trivial⟩
      ·simp only[kP,hrun,Option.bind_some]
       rw[hms,if_neg (by simp[v0']),if_pos ⟨ha,hj⟩]
      ·rw[hU.cell (by simpa using Ne.symm hgc)]
       exact hE9d.cell hbc9
     ·have hj:jD s p'=false:=by rw[hjj,decide_eq_false q3,Bool.and_false]
      refine Load.here (hbn9.cells.all' rfl) ?_
      refine aG.mk _ _ (aY _ _ _ _ _) ?_
      have hnw:bO w9 w9.heap.size [.int .u8 kind,.string name,.string value,.int .i64 p'] 50 (w9.alloc (.cells #[.int .u8 kind,.string name,.string value,.int .i64 p'] 50)):=⟨rfl,rfl⟩
      refine bD.append bI w.heap.size (s.out.map Nd.cells) [Nd.cells ⟨kind,name,value,p'⟩] (hvec9.ext hnw.ext) (aT hnw) (by intro y hy;rw[List.mem_singleton.1 hy];exact⟨rfl,Nd.cells_one _⟩)
       (by simp;omega) (by simp;omega) (Nat.le_trans hE9.sz hnw.ext.sz) fun v' wz hva har=>?_
      refine Ar.i64 (by omega) ?_
      have hEa:Ext w wz:=Below.trans (hE9.trans hnw.ext) (har.below (Nat.le_trans hE9.sz hnw.ext.sz) fun b hb=>(hvec9.ge hb).1)
      have hfr:=har.fresh
      have hsz9:=hnw.ext.sz
      have hbc9l:=World.block_lt_of_cell? _ _ hbc9
      have hbt9l:=hbt9.lt
      simp only at hbc9l
      refine⟨(k+1,⟨s.out++[⟨kind,name,value,p'⟩],s.tt.set k s.out.length⟩,v'),⟨hEa,by simp only;omega,?_,hord',hok.app _ hwk hp' hwf.name hvl,?_,har.blk (hbt9.ext hnw.ext) nvt,?_,?_,?_⟩,by simp only;omega,rfl,rfl,rfl,rfl,rfl,rfl,rfl,trivial⟩
      ·simp only[kP,hrun,Option.bind_some]
       rw[hms,if_neg (by simp[v0']),if_neg (by simp[hj])]
      ·have:=har.g.block bc (Nat.lt_of_lt_of_le hbc9l hsz9) (fun e=>nvc e.symm)
       rw[World.cell?_of_block this]
       exact hnw.ext.cell hbc9
      ·rw[List.map_append];exact hva
      ·intro e
       rcases hfr _ e with e|e
       ·exact nvc e
       ·omega
      ·intro e
       rcases hfr _ e with e|e
       ·exact nvt e
       ·omega
    ·repeat (first|refine gA ?_|refine gB ?_|refine gC ?_)
     refine Cond.no ?_
     have hj:jD s p'=false:=by rw[hjj,decide_eq_false q2,Bool.false_and]
     refine Load.here (hbn9.cells.all' rfl) ?_
     refine aG.mk _ _ (aY _ _ _ _ _) ?_
     have hnw:bO w9 w9.heap.size [.int .u8 kind,.string name,.string value,.int .i64 p'] 50 (w9.alloc (.cells #[.int .u8 kind,.string name,.string value,.int .i64 p'] 50)):=⟨rfl,rfl⟩
     refine bD.append bI w.heap.size (s.out.map Nd.cells) [Nd.cells ⟨kind,name,value,p'⟩] (hvec9.ext hnw.ext) (aT hnw) (by intro y hy;rw[List.mem_singleton.1 hy];exact⟨rfl,Nd.cells_one _⟩)
      (by simp;omega) (by simp;omega) (Nat.le_trans hE9.sz hnw.ext.sz) fun v' wz hva har=>?_
     refine Ar.i64 (by omega) ?_
     have hEa:Ext w wz:=Below.trans (hE9.trans hnw.ext) (har.below (Nat.le_trans hE9.sz hnw.ext.sz) fun b hb=>(hvec9.ge hb).1)
     have hfr:=har.fresh
     have hsz9:=hnw.ext.sz
     have hbc9l:=World.block_lt_of_cell? _ _ hbc9
     have hbt9l:=hbt9.lt
     simp only at hbc9l
     refine⟨(k+1,⟨s.out++[⟨kind,name,value,p'⟩],s.tt.set k s.out.length⟩,v'),⟨hEa,by simp only;omega,?_,hord',hok.app _ hwk hp' hwf.name hvl,?_,har.blk (hbt9.ext hnw.ext) nvt,?_,?_,?_⟩,by simp only;omega,rfl,rfl,rfl,rfl,rfl,rfl,rfl,trivial⟩
     ·simp only[kP,hrun,Option.bind_some]
      rw[hms,if_neg (by simp[v0']),if_neg (by simp[hj])]
     ·have:=har.g.block bc (Nat.lt_of_lt_of_le hbc9l hsz9) (fun e=>nvc e.symm)
      rw[World.cell?_of_block this]
      exact hnw.ext.cell hbc9
     ·rw[List.map_append];exact hva
     ·intro e
      rcases hfr _ e with e|e
      ·exact nvc e
      ·omega
     ·intro e
      rcases hfr _ e with e|e
      ·exact nvt e
      ·omega
   ·repeat (first|refine gA ?_|refine gB ?_|refine gC ?_)
    refine Cond.no ?_
    have hj:jD s p'=false:=by
     have:s.out.length=0:=by omega
     simp[jD,this]
    refine Load.here (hbn9.cells.all' rfl) ?_
    refine aG.mk _ _ (aY _ _ _ _ _) ?_
    have hnw:bO w9 w9.heap.size [.int .u8 kind,.string name,.string value,.int .i64 p'] 50 (w9.alloc (.cells #[.int .u8 kind,.string name,.string value,.int .i64 p'] 50)):=⟨rfl,rfl⟩
    refine bD.append bI w.heap.size (s.out.map Nd.cells) [Nd.cells ⟨kind,name,value,p'⟩] (hvec9.ext hnw.ext) (aT hnw) (by intro y hy;rw[List.mem_singleton.1 hy];exact⟨rfl,Nd.cells_one _⟩)
     (by simp;omega) (by simp;omega) (Nat.le_trans hE9.sz hnw.ext.sz) fun v' wz hva har=>?_
    refine Ar.i64 (by omega) ?_
    have hEa:Ext w wz:=Below.trans (hE9.trans hnw.ext) (har.below (Nat.le_trans hE9.sz hnw.ext.sz) fun b hb=>(hvec9.ge hb).1)
    have hfr:=har.fresh
    have hsz9:=hnw.ext.sz
    have hbc9l:=World.block_lt_of_cell? _ _ hbc9
    have hbt9l:=hbt9.lt
    simp only at hbc9l
    refine⟨(k+1,⟨s.out++[⟨kind,name,value,p'⟩],s.tt.set k s.out.length⟩,v'),⟨hEa,by simp only;omega,?_,hord',hok.app _ hwk hp' hwf.name hvl,?_,har.blk (hbt9.ext hnw.ext) nvt,?_,?_,?_⟩,by simp only;omega,rfl,rfl,rfl,rfl,rfl,rfl,rfl,trivial⟩
    ·simp only[kP,hrun,Option.bind_some]
     rw[hms,if_neg (by simp[v0']),if_neg (by simp[hj])]
    ·have:=har.g.block bc (Nat.lt_of_lt_of_le hbc9l hsz9) (fun e=>nvc e.symm)
     rw[World.cell?_of_block this]
     exact hnw.ext.cell hbc9
    ·rw[List.map_append];exact hva
    ·intro e
     rcases hfr _ e with e|e
     ·exact nvc e
     ·omega
    ·intro e
     rcases hfr _ e with e|e
     ·exact nvt e
     ·omega
  have hk1:k+1<t.length:=by omega
  obtain⟨a1,ha1,hc1⟩:=h4 _ hE8 (k+1) hk1
  have hnd1:=eT hk1
  have hne1:¬k+1=t.length:=by omega
  repeat (first|refine gA ?_|refine gB ?_|refine gC ?_)
  refine Ar.i64 (by omega) ?_
  repeat (first|refine gA ?_|refine gB ?_|refine gC ?_)
  refine Idx.mk a1 ha1 (by omega) (by omega) ?_
  repeat (first|refine gA ?_|refine gB ?_|refine gC ?_)
  refine Load.here (hc1.one rfl) ?_
  repeat (first|refine gA ?_|refine gB ?_|refine gC ?_)
  by_cases hpk:(t[k+1]).parent=(k:Int)
  ·rw[decide_eq_true hpk]
   have ha:gJ t k=false:=by simp only[gJ,hnd1,hpk];simp[hne1]
   repeat (first|refine gA ?_|refine gB ?_|refine gC ?_)
   refine Cond.no ?_
   refine Ar.i64 (by omega) ?_
   refine aQ.mk aB mixed (allT 0 23) [] (by kernel_rfl) (fun w'=>w'=World.drew w8) rfl ?_
   repeat (first|refine gA ?_|refine gB ?_|refine gC ?_)
   refine Cond.no ?_
   have hE9:=hE8.trans (Ext.drew w8)
   have hbc9:=(Ext.drew w8).cell hbc8
   have hbt9:=hbt8.ext (Ext.drew w8)
   have hvec9:=hvec8.ext (Ext.drew w8)
   have hbn9:=hbn8.ext (Ext.drew w8)
   generalize World.drew w8=w9 at *
   refine Load.here (hbn9.cells.all' rfl) ?_
   refine aG.mk _ _ (aY _ _ _ _ _) ?_
   have hnw:bO w9 w9.heap.size [.int .u8 kind,.string name,.string value,.int .i64 p'] 50 (w9.alloc (.cells #[.int .u8 kind,.string name,.string value,.int .i64 p'] 50)):=⟨rfl,rfl⟩
   refine bD.append bI w.heap.size (s.out.map Nd.cells) [Nd.cells ⟨kind,name,value,p'⟩] (hvec9.ext hnw.ext) (aT hnw) (by intro y hy;rw[List.mem_singleton.1 hy];exact⟨rfl,Nd.cells_one _⟩)
    (by simp;omega) (by simp;omega) (Nat.le_trans hE9.sz hnw.ext.sz) fun v' wz hva har=>?_
   refine Ar.i64 (by omega) ?_
   have hEa:Ext w wz:=Below.trans (hE9.trans hnw.ext) (har.below (Nat.le_trans hE9.sz hnw.ext.sz) fun b hb=>(hvec9.ge hb).1)
   have hfr:=har.fresh
   have hsz9:=hnw.ext.sz
   have hbc9l:=World.block_lt_of_cell? _ _ hbc9
   have hbt9l:=hbt9.lt
   simp only at hbc9l
   refine⟨(k+1,⟨s.out++[⟨kind,name,value,p'⟩],s.tt.set k s.out.length⟩,v'),⟨hEa,by simp only;omega,?_,hord',hok.app _ hwk hp' hwf.name hvl,?_,har.blk (hbt9.ext hnw.ext) nvt,?_,?_,?_⟩,by simp only;omega,rfl,rfl,rfl,rfl,rfl,rfl,rfl,trivial⟩
   ·simp only[kP,hrun,Option.bind_some]
    rw[hms,if_neg (by simp[ha]),if_neg (by simp[ha])]
   ·have:=har.g.block bc (Nat.lt_of_lt_of_le hbc9l hsz9) (fun e=>nvc e.symm)
    rw[World.cell?_of_block this]
    exact hnw.ext.cell hbc9
   ·rw[List.map_append];exact hva
   ·intro e
    rcases hfr _ e with e|e
    ·exact nvc e
    ·omega
   ·intro e
    rcases hfr _ e with e|e
    ·exact nvt e
    ·omega
  ·rw[decide_eq_false hpk]
   have ha:gJ t k=true:=by simp only[gJ,hnd1,hnd];simp[hne1,hpk,k4]
   repeat (first|refine gA ?_|refine gB ?_|refine gC ?_)
   refine Load.here (hbn8.cells.one rfl) ?_
   repeat (first|refine gA ?_|refine gB ?_|refine gC ?_)
   refine Cond.dec (fun v0=>?_) (fun v0=>?_)
   ·refine Ar.i64 (by omega) ?_
    refine⟨(k+1,⟨s.out,s.tt.set k s.out.length⟩,.slice ov s.out.length cv),⟨hE8,by simp only;omega,?_,hord',hok.same,hbc8,hbt8,hvec8,nvc,nvt⟩,by simp only;omega,rfl,rfl,rfl,rfl,rfl,rfl,rfl,trivial⟩
    simp only[kP,hrun,Option.bind_some]
    rw[hms,if_pos ⟨ha,v0⟩]
   have v0':¬value=aP:=v0
   refine Ar.i64 (by omega) ?_
   refine aQ.mk aB mixed (allT 0 23) [] (by kernel_rfl) (fun w'=>w'=World.drew w8) rfl ?_
   have hE9:=hE8.trans (Ext.drew w8)
   have hbc9:=(Ext.drew w8).cell hbc8
   have hbt9:=hbt8.ext (Ext.drew w8)
   have hvec9:=hvec8.ext (Ext.drew w8)
   have hbn9:=hbn8.ext (Ext.drew w8)
   generalize World.drew w8=w9 at *
   repeat (first|refine gA ?_|refine gB ?_|refine gC ?_)
   refine aK.bB (fun q1=>?_) (fun q1=>?_)
   ·have hlo:0<s.out.length:=by omega
    have hi1:((s.out.length:Int)-1).toNat=s.out.length-1:=by omega
    have hel9:El w9 ov 4 (s.out.map Nd.cells):=hvec9.sl.el _ _ _ rfl
    have hlast:s.out[s.out.length-1]'(by omega)=s.out.getD (s.out.length-1) nd0:=by rw[List.getD_eq_getElem?_getD,List.getElem?_eq_getElem (by omega)];rfl
    obtain⟨a,ha1,hca⟩:=hel9 (s.out.length-1) (Nd.cells (s.out.getD (s.out.length-1) nd0)) (by rw[List.getElem?_map,List.getElem?_eq_getElem (by omega),hlast];rfl)
    have hjj:jD s p'=(decide ((s.out.getD (s.out.length-1) nd0).kind=4)&&decide ((s.out.getD (s.out.length-1) nd0).parent=p')):=by
     unfold jD
     rw[decide_eq_true hlo,Bool.true_and]
    repeat (first|refine gA ?_|refine gB ?_|refine gC ?_)
    refine Idx.mk a ha1 (by omega) (by omega) ?_
    rw[hi1]
    repeat (first|refine gA ?_|refine gB ?_|refine gC ?_)
    refine Load.here (hca.one rfl) ?_
    repeat (first|refine gA ?_|refine gB ?_|refine gC ?_)
    refine aK.bB (fun q2=>?_) (fun q2=>?_)
    ·repeat (first|refine gA ?_|refine gB ?_|refine gC ?_)
     refine Idx.mk a ha1 (by omega) (by omega) ?_
     rw[hi1]
     repeat (first|refine gA ?_|refine gB ?_|refine gC ?_)
     refine Load.here (hca.one rfl) ?_
     repeat (first|refine gA ?_|refine gB ?_|refine gC ?_)
     refine Load.here (hbn9.cells.one rfl) ?_
     repeat (first|refine gA ?_|refine gB ?_|refine gC ?_)
     refine Cond.dec (fun q3=>?_) (fun q3=>?_)
     ·have hj:jD s p'=true:=by rw[hjj,decide_eq_true q2,decide_eq_true q3];rfl
      clear hca ha1
      have hil:s.out.length-1<(s.out.map Nd.cells).length:=by simp;omega
      have hE9d:=Ext.drew w9
      obtain⟨g,cp,cur,hgv,hg1,hg2,hgb,hgl,hgo,hput⟩:=(hvec9.ext hE9d).put hil [.string ((s.out.getD (s.out.length-1) nd0).value++value)] (off:=2) (by simp)
      simp only[Value.slice.injEq]at hgv
      obtain⟨rfl,_,rfl⟩:=hgv
      obtain⟨a,ha1,hca⟩:=hel9 (s.out.length-1) (Nd.cells (s.out.getD (s.out.length-1) nd0)) (by rw[List.getElem?_map,List.getElem?_eq_getElem (by omega),hlast];rfl)
      cases ha1
      have hwl:=(hok.wf (s.out.getD (s.out.length-1) nd0) (by rw[←hlast];exact List.getElem_mem _)).2.2.2.2.2
      refine aQ.mk aB mixed (allT 0 10++[(10,false)]) [10] (by kernel_rfl) (fun w'=>w'=World.drew w9) rfl ?_
      refine Idx.mk ⟨g,0,none⟩ rfl (by omega) (by omega) ?_
      rw[hi1]
      refine Load.here ((hca.ext hE9d).one rfl) ?_
      refine Load.here ((hbn9.ext hE9d).cells.one rfl) ?_
      refine Need.mk (by omega) ?_
      refine Idx.mk ⟨g,0,none⟩ rfl (by omega) (by omega) ?_
      rw[hi1]
      refine bA.store g ((s.out.length-1)*4+2) cur [.string ((s.out.getD (s.out.length-1) nd0).value++value)] 50 (by rw[bW,bW,Nat.zero_add]) rfl (by kernel_rfl) hgb hgl (by simp[Value.oneCell']) fun wz hU=>?_
      have hva:=hput wz hU
      have hmap:(s.out.map Nd.cells).set (s.out.length-1) (splice (s.out.map Nd.cells)[s.out.length-1] 2 [.string ((s.out.getD (s.out.length-1) nd0).value++value)])=(s.out.set (s.out.length-1) (lF (s.out.getD (s.out.length-1) nd0) value)).map Nd.cells:=by
       rw[List.map_set]
       congr 1
       rw[List.getElem_map,hlast]
       rfl
      rw[hmap]at hva
      refine Ar.i64 (by omega) ?_
      have hgc:g≠bc:=fun e=>nvc (by rw[hgo,e])
      have hgt:g≠bt:=fun e=>nvt (by rw[hgo,e])
      refine⟨(k+1,⟨s.out.set (s.out.length-1) (lF (s.out.getD (s.out.length-1) nd0) value),s.tt.set k s.out.length⟩,.slice (some ⟨g,0,none⟩) s.out.length cv),⟨(hE9.trans hE9d).upd hU hg1,by simp only;omega,?_,hord',hok.join hlo value hvl,?_,hU.aF (hbt9.ext hE9d) (Ne.symm hgt),hva,nvc,nvt⟩,by simp only;omega,rfl,rfl,rfl,rfl,rfl,rfl,rfl,trivial⟩
      ·simp only[kP,hrun,Option.bind_some]
       rw[hms,if_neg (by simp[v0']),if_pos ⟨ha,hj⟩]
      ·rw[hU.cell (by simpa using Ne.symm hgc)]
       exact hE9d.cell hbc9
     ·have hj:jD s p'=false:=by rw[hjj,decide_eq_false q3,Bool.and_false]
      refine Load.here (hbn9.cells.all' rfl) ?_
      refine aG.mk _ _ (aY _ _ _ _ _) ?_
      have hnw:bO w9 w9.heap.size [.int .u8 kind,.string name,.string value,.int .i64 p'] 50 (w9.alloc (.cells #[.int .u8 kind,.string name,.string value,.int .i64 p'] 50)):=⟨rfl,rfl⟩
      refine bD.append bI w.heap.size (s.out.map Nd.cells) [Nd.cells ⟨kind,name,value,p'⟩] (hvec9.ext hnw.ext) (aT hnw) (by intro y hy;rw[List.mem_singleton.1 hy];exact⟨rfl,Nd.cells_one _⟩)
       (by simp;omega) (by simp;omega) (Nat.le_trans hE9.sz hnw.ext.sz) fun v' wz hva har=>?_
      refine Ar.i64 (by omega) ?_
      have hEa:Ext w wz:=Below.trans (hE9.trans hnw.ext) (har.below (Nat.le_trans hE9.sz hnw.ext.sz) fun b hb=>(hvec9.ge hb).1)
      have hfr:=har.fresh
      have hsz9:=hnw.ext.sz
      have hbc9l:=World.block_lt_of_cell? _ _ hbc9
      have hbt9l:=hbt9.lt
      simp only at hbc9l
      refine⟨(k+1,⟨s.out++[⟨kind,name,value,p'⟩],s.tt.set k s.out.length⟩,v'),⟨hEa,by simp only;omega,?_,hord',hok.app _ hwk hp' hwf.name hvl,?_,har.blk (hbt9.ext hnw.ext) nvt,?_,?_,?_⟩,by simp only;omega,rfl,rfl,rfl,rfl,rfl,rfl,rfl,trivial⟩
      ·simp only[kP,hrun,Option.bind_some]
       rw[hms,if_neg (by simp[v0']),if_neg (by simp[hj])]
      ·have:=har.g.block bc (Nat.lt_of_lt_of_le hbc9l hsz9) (fun e=>nvc e.symm)
       rw[World.cell?_of_block this]
       exact hnw.ext.cell hbc9
      ·rw[List.map_append];exact hva
      ·intro e
       rcases hfr _ e with e|e
       ·exact nvc e
       ·omega
      ·intro e
       rcases hfr _ e with e|e
       ·exact nvt e
       ·omega
    ·repeat (first|refine gA ?_|refine gB ?_|refine gC ?_)
     refine Cond.no ?_
     have hj:jD s p'=false:=by rw[hjj,decide_eq_false q2,Bool.false_and]
     refine Load.here (hbn9.cells.all' rfl) ?_
     refine aG.mk _ _ (aY _ _ _ _ _) ?_
     have hnw:bO w9 w9.heap.size [.int .u8 kind,.string name,.string value,.int .i64 p'] 50 (w9.alloc (.cells #[.int .u8 kind,.string name,.string value,.int .i64 p'] 50)):=⟨rfl,rfl⟩
     refine bD.append bI w.heap.size (s.out.map Nd.cells) [Nd.cells ⟨kind,name,value,p'⟩] (hvec9.ext hnw.ext) (aT hnw) (by intro y hy;rw[List.mem_singleton.1 hy];exact⟨rfl,Nd.cells_one _⟩)
      (by simp;omega) (by simp;omega) (Nat.le_trans hE9.sz hnw.ext.sz) fun v' wz hva har=>?_
     refine Ar.i64 (by omega) ?_
     have hEa:Ext w wz:=Below.trans (hE9.trans hnw.ext) (har.below (Nat.le_trans hE9.sz hnw.ext.sz) fun b hb=>(hvec9.ge hb).1)
     have hfr:=har.fresh
     have hsz9:=hnw.ext.sz
     have hbc9l:=World.block_lt_of_cell? _ _ hbc9
     have hbt9l:=hbt9.lt
     simp only at hbc9l
     refine⟨(k+1,⟨s.out++[⟨kind,name,value,p'⟩],s.tt.set k s.out.length⟩,v'),⟨hEa,by simp only;omega,?_,hord',hok.app _ hwk hp' hwf.name hvl,?_,har.blk (hbt9.ext hnw.ext) nvt,?_,?_,?_⟩,by simp only;omega,rfl,rfl,rfl,rfl,rfl,rfl,rfl,trivial⟩
     ·simp only[kP,hrun,Option.bind_some]
      rw[hms,if_neg (by simp[v0']),if_neg (by simp[hj])]
     ·have:=har.g.block bc (Nat.lt_of_lt_of_le hbc9l hsz9) (fun e=>nvc e.symm)
      rw[World.cell?_of_block this]
      exact hnw.ext.cell hbc9
     ·rw[List.map_append];exact hva
     ·intro e
      rcases hfr _ e with e|e
      ·exact nvc e
      ·omega
     ·intro e
      rcases hfr _ e with e|e
      ·exact nvt e
      ·omega
   ·repeat (first|refine gA ?_|refine gB ?_|refine gC ?_)
    refine Cond.no ?_
    have hj:jD s p'=false:=by
     have:s.out.length=0:=by omega
     simp[jD,this]
    refine Load.here (hbn9.cells.all' rfl) ?_
    refine aG.mk _ _ (aY _ _ _ _ _) ?_
    have hnw:bO w9 w9.heap.size [.int .u8 kind,.string name,.string value,.int .i64 p'] 50 (w9.alloc (.cells #[.int .u8 kind,.string name,.string value,.int .i64 p'] 50)):=⟨rfl,rfl⟩
    refine bD.append bI w.heap.size (s.out.map Nd.cells) [Nd.cells ⟨kind,name,value,p'⟩] (hvec9.ext hnw.ext) (aT hnw) (by intro y hy;rw[List.mem_singleton.1 hy];exact⟨rfl,Nd.cells_one _⟩)
     (by simp;omega) (by simp;omega) (Nat.le_trans hE9.sz hnw.ext.sz) fun v' wz hva har=>?_
    refine Ar.i64 (by omega) ?_
    have hEa:Ext w wz:=Below.trans (hE9.trans hnw.ext) (har.below (Nat.le_trans hE9.sz hnw.ext.sz) fun b hb=>(hvec9.ge hb).1)
    have hfr:=har.fresh
    have hsz9:=hnw.ext.sz
    have hbc9l:=World.block_lt_of_cell? _ _ hbc9
    have hbt9l:=hbt9.lt
    simp only at hbc9l
    refine⟨(k+1,⟨s.out++[⟨kind,name,value,p'⟩],s.tt.set k s.out.length⟩,v'),⟨hEa,by simp only;omega,?_,hord',hok.app _ hwk hp' hwf.name hvl,?_,har.blk (hbt9.ext hnw.ext) nvt,?_,?_,?_⟩,by simp only;omega,rfl,rfl,rfl,rfl,rfl,rfl,rfl,trivial⟩
    ·simp only[kP,hrun,Option.bind_some]
     rw[hms,if_neg (by simp[v0']),if_neg (by simp[hj])]
    ·have:=har.g.block bc (Nat.lt_of_lt_of_le hbc9l hsz9) (fun e=>nvc e.symm)
     rw[World.cell?_of_block this]
     exact hnw.ext.cell hbc9
    ·rw[List.map_append];exact hva
    ·intro e
     rcases hfr _ e with e|e
     ·exact nvc e
     ·omega
    ·intro e
     rcases hfr _ e with e|e
     ·exact nvt e
     ·omega
end Go.Proofs.YtelffdgcikceaaaGreatDoor
end
section
namespace Go.V
open Go.RowKit (Below)
theorem Vec.wM{w w':World}{b B e sz:Nat}{cs:List Value}{xs:List (List Value)}(h:bO w b cs e w')(hx:xs.flatten=cs)(hl:∀x∈xs,x.length=sz)(hm:xs.length≤maxLen)(hB:B≤w.heap.size) :
  Vec w' B e sz (.slice (some ⟨b,0,none⟩) xs.length xs.length) xs:=by
 refine⟨⟨eZ hl,.inr ⟨b,xs.length,cs.toArray,rfl,by rw[h.b_eq];exact hB,h.blk,Nat.le_refl _,hm,?_,?_⟩⟩,hl⟩
 ·rw[List.size_toArray,←hx];exact eZ hl
 ·rw[List.toList_toArray,←hx,←eZ hl,List.take_length]
theorem Vec.nodes{w:World}{B:Nat}{v:Value}{l:List Nd}(h:Vec w B 50 4 v (l.map Nd.cells))(hw:∀n∈l,n.Wf)(hl:l.length≤2932031007402):aJ w v l:=⟨h.sl,hw,hl⟩
end Go.V
namespace Go.Proofs.YtelffdgcikceaaaGreatDoor
open Go.V
open Go.RowKit (Below)
theorem run_nilNodes(o:Option Addr)(n c:Nat)(gx gy:Operand)(w:World):(do eqGuard .eql 31 gx gy (.slice o n c) (.slice none 0 0);binOp .eql 31 (.slice o n c) (.slice none 0 0):Sem Value).run Tryz.prog w=.ok (.bool (decide (o=none))) w:=by
 cases o<;>kernel_rfl
theorem run_nilParts(o:Option Addr)(n c:Nat)(gx gy:Operand)(w:World):(do eqGuard .eql 22 gx gy (.slice o n c) (.slice none 0 0);binOp .eql 22 (.slice o n c) (.slice none 0 0):Sem Value).run Tryz.prog w=.ok (.bool (decide (o=none))) w:=by
 cases o<;>kernel_rfl
theorem qH(w:World):(Instr.buildSlice 31 0 #[]).run Tryz.prog w=.ok (.slice (some ⟨w.heap.size,0,none⟩) 0 0) (w.alloc (.cells #[] 50)):=by kernel_rfl
theorem run_noParts(w:World):(Instr.buildSlice 22 0 #[]).run Tryz.prog w=.ok (.slice (some ⟨w.heap.size,0,none⟩) 0 0) (w.alloc (.cells #[] 41)):=by kernel_rfl
theorem fT:lG Tryz.prog 22 41 4 56:=by
 obtain⟨i,h1,h2,h3,h4⟩:=nW (t:=41) (z:=.agg #[.int .u8 0,.int .i64 0,.string ⟨#[]⟩,.slice none 0 0]) (m:=4) (b:=56) (by kernel_rfl)
 exact⟨Tryz.underlying22,⟨i,_,h1,h2,h3,h4,rfl⟩,by decide⟩
theorem mJ(v:Value)(l:List Nd)(w:World)(hl:aJ w v l) :
  bV Tryz.prog 43 #[v] w (fun v' w'=>Vec w' w.heap.size 50 4 v' (l.map Nd.cells)∧Ext w w'):=by
 have hsl:=hl.sl
 have hle:=hl.len
 obtain⟨o,c,rfl,h1,h2,h3,h4⟩:=hl.open_
 refine enter aB Tryz.func43 (aV rfl) rfl rfl rfl ?_
 refine sG.here (run_nilNodes _ _ _ _ _ _) ?_
 refine Cond.dec (fun g1=>?_) (fun g1=>?_)
 ·have:l=[]:=List.eq_nil_of_length_eq_zero (by have:=h3 g1;omega)
  subst this
  exact And.intro (Vec.nil _ _ _ _) (Ext.refl _)
 ·refine aG.mk _ _ (qH w) ?_
  have hn:bO w w.heap.size [] 50 (w.alloc (.cells #[] 50)):=⟨rfl,rfl⟩
  have hv:=Vec.wM (xs:=[]) (sz:=4) hn rfl (by simp) (by decide) (Nat.le_refl _)
  have hml:maxLen=9223372036854775807:=rfl
  refine bD.append bI w.heap.size [] (l.map Nd.cells) hv (hsl.ext hn.ext) (by
   intro y hy
   obtain⟨x,_,rfl⟩:=List.mem_map.1 hy
   exact⟨rfl,Nd.cells_one _⟩) (by simp;omega) (by simp;omega) hn.ext.sz fun v' w' hva har=>?_
  refine And.intro hva (Below.trans hn.ext (har.below hn.ext.sz fun b hb=>?_))
  exact(hv.ge hb).1
theorem CloneP_con(v:Value)(l:List (List Value))(w:World)(hl:eO w v 4 l)(hle:l.length≤2513169434916)(h1c:∀y∈l,y.length=4∧∀u∈y,u.oneCell'=true) :
  bV Tryz.prog 35 #[v] w (fun v' w'=>Vec w' w.heap.size 41 4 v' l∧Ext w w'):=by
 obtain⟨o,c,rfl,h1,h2,h3⟩:=hl.ex
 refine enter aB Tryz.func35 (aV rfl) rfl rfl rfl ?_
 refine sG.here (run_nilParts _ _ _ _ _ _) ?_
 refine Cond.dec (fun g1=>?_) (fun g1=>?_)
 ·have:l=[]:=List.eq_nil_of_length_eq_zero (by have:=h3 g1;omega)
  subst this
  exact And.intro (Vec.nil _ _ _ _) (Ext.refl _)
 ·refine aG.mk _ _ (run_noParts w) ?_
  have hn:bO w w.heap.size [] 41 (w.alloc (.cells #[] 41)):=⟨rfl,rfl⟩
  have hv:=Vec.wM (xs:=[]) (sz:=4) hn rfl (by simp) (by decide) (Nat.le_refl _)
  have hml:maxLen=9223372036854775807:=rfl
  refine bD.append fT w.heap.size [] l hv (hl.ext hn.ext) h1c (by simp;omega) (by simp;omega) hn.ext.sz fun v' w' hva har=>?_
  refine And.intro hva (Below.trans hn.ext (har.below hn.ext.sz fun b hb=>?_))
  exact(hv.ge hb).1
def dZ(n:Nd):Bool:=decide (n.kind=3)&&decide (n.parent=-1)
def bR(l:List Nd):Nat:=(l.takeWhile dZ).length
theorem split1_con(n:Nd)(w:World):bV Tryz.prog 78 #[.agg n.cells.toArray] w (fun v w'=>v=.bool (!dZ n)∧Ext w w'):=by
 obtain⟨kind,name,value,parent⟩:=n
 refine enter aB Tryz.func78 (aV rfl) rfl rfl rfl ?_
 refine aG.box [.int .u8 kind,.string name,.string value,.int .i64 parent] rfl fun b w1 h1=>?_
 have hc:=h1.blk.cells
 refine Load.here (hc.one rfl) ?_
 refine aK.bP (fun g1=>?_) (fun g1=>?_)
 ·repeat (first|refine gA ?_|refine gB ?_|refine gC ?_)
  refine Load.here (hc.one rfl) ?_
  repeat (first|refine gA ?_|refine gB ?_|refine gC ?_)
  refine And.intro ?_ h1.ext
  simp[aC,dZ,g1]
 ·repeat (first|refine gA ?_|refine gB ?_|refine gC ?_)
  refine And.intro ?_ h1.ext
  simp[aC,dZ,g1]
theorem yA{l:List Nd}{k:Nat}(h:k<l.length)(ha:(l.take k).all dZ=true)(hn:dZ (l[k])=false):bR l=k:=by
 unfold bR
 rw[←List.take_append_drop k l,List.takeWhile_append_of_pos (by simpa using ha),List.drop_eq_getElem_cons h,List.takeWhile_cons]
 simp[hn]
 omega
theorem headLen_all{l:List Nd}(ha:l.all dZ=true):bR l=l.length:=by
 unfold bR
 have:l.takeWhile dZ=l:=by
  conv=>lhs;rw[←List.append_nil l]
  rw[List.takeWhile_append_of_pos (by simpa using ha)]
  simp
 rw[this]
theorem jC(l:List Nd):bR l≤l.length:=(List.takeWhile_sublist _).length_le
theorem IndexFunc_con(v:Value)(l:List Nd)(w:World)(hl:aJ w v l) :
  bV Tryz.prog 77 #[v,.func (.func 78) #[] #[]] w (fun v w'=>v=.int .i64 (if bR l=l.length then -1 else bR l)∧Ext w w'):=by
 obtain⟨o,c,rfl,h1,h2,h3,h4⟩:=hl.open_
 have hle:=hl.len
 refine enter aB Tryz.func77 (aV rfl) rfl rfl rfl ?_
 refine aH.mk (X:=Nat) (fun k=>[(0,.slice o l.length c),(1,.func (.func 78) #[] #[]),(7,.int .i64 l.length),(8,.int .i64 k)])
  (fun k w'=>Ext w w'∧k≤l.length∧(l.take k).all dZ=true) (fun k=>l.length-k) 0 ⟨Ext.refl _,Nat.zero_le _,rfl⟩ ⟨rfl,rfl,rfl,rfl,trivial⟩ ?_
 rintro k w1 ⟨hE,hk,ha⟩
 refine Cond.dec (fun g1=>?_) (fun g1=>?_)
 ·have hkl:k<l.length:=by omega
  obtain⟨a,ha',hc⟩:=h4 _ hE k hkl
  refine Idx.mk a ha' (by omega) (by omega) ?_
  refine Load.here (hc.all' rfl) ?_
  refine aA.mk _ (split1_con l[k] w1) ?_
  rintro v w2 ⟨rfl,hE2⟩
  refine Cond.neg (fun h=>?_) (fun h=>?_)
  ·refine And.intro ?_ (hE.trans hE2)
   rw[yA hkl ha h,if_neg (by omega)]
   rfl
  ·refine Ar.i64 (by omega) ?_
   refine⟨k+1,⟨hE.trans hE2,by omega,?_⟩,by omega,rfl,rfl,rfl,rfl,trivial⟩
   rw[List.take_succ_eq_append_getElem hkl,List.all_append,ha]
   simp[h]
 ·refine And.intro ?_ hE
  have:k=l.length:=by omega
  rw[this,List.take_length]at ha
  rw[headLen_all ha,if_pos rfl]
  rfl
end Go.Proofs.YtelffdgcikceaaaGreatDoor
end
