/- Texts N4, N5, N6, N7, N8, N9, NA, NB, NC, ND, NE, NQ. The document's answer: nodes with numbers, and their lists. -/
import Derived.Test.YtelffdgcikceaaaGreatDoorXN3
set_option linter.unusedSimpArgs false
set_option linter.unusedVariables false
section
namespace Go.Proofs.YtelffdgcikceaaaGreatDoor
open Go.V
open Go.RowKit (Below)
def upInt:Option Nat→Int
 | none=>-1
 | some u=>u
def mY(s:PN):Nd:=withParent s.row (upInt s.up)
def bS(l:List Nat):List (List Value):=l.map fun i:Nat=>[Value.int .i64 (i:Int)]
theorem aO(l:List Nat):(bS l).length=l.length:=by simp[bS]
theorem iQ(l m:List Nat):bS (l++m)=bS l++bS m:=by simp[bS]
theorem vG{l:List Nat}{i:Nat}(h:i<l.length):(bS l)[i]? = some [.int .i64 (l[i]:Int)]:=by simp[bS,h]
theorem gH(l:List Nat):∀y∈bS l,y.length=1∧∀u∈y,u.oneCell'=true:=fun y hy=>by
 obtain⟨i,-,rfl⟩:=List.mem_map.1 hy
 exact⟨rfl,fun u hu=>by rw[List.mem_singleton.1 hu];rfl⟩
def T0:Nat→Prop:=fun _=>True
theorem jS:lG Tryz.prog 126 3 1 8:=by
 obtain⟨i,h1,h2,h3,h4⟩:=nW (t:=3) (z:=.int .i64 0) (m:=1) (b:=8) (by kernel_rfl)
 exact⟨Tryz.underlying126,⟨i,_,h1,h2,h3,h4,rfl⟩,by decide⟩
theorem elem74:lG Tryz.prog 74 126 1 24:=by
 obtain⟨i,h1,h2,h3,h4⟩:=nW (t:=126) (z:=.slice none 0 0) (m:=1) (b:=24) (by kernel_rfl)
 exact⟨Tryz.underlying74,⟨i,_,h1,h2,h3,h4,rfl⟩,by decide⟩
structure iB(w:World)(B wb:Nat)(own:Nat→Nat)(S:List PN)(nv av kv:Value)(A K:List Value):Prop where
 blk:bQ w wb [nv,av,kv] 159
 ge:B≤wb
 nodes:Held own T0 w B 50 4 5 nv ((S.map mY).map Nd.cells)
 va:Held own T0 w B 126 1 0 av (gP A)
 vk:Held own T0 w B 126 1 1 kv (gP K)
 la:A.length=S.length
 lk:K.length=S.length
 ha:∀(i:Nat) (v:Value) (s:PN),A[i]? = some v→S[i]? = some s→Held own T0 w B 3 1 (2*i+6) v (bS s.attrs)
 hk:∀(i:Nat) (v:Value) (s:PN),K[i]? = some v→S[i]? = some s→Held own T0 w B 3 1 (2*i+7) v (bS s.kids)
theorem iB.ext{w w':World}{B wb:Nat}{own:Nat→Nat}{S:List PN}{nv av kv:Value}{A K:List Value}(h:iB w B wb own S nv av kv A K)(hE:Ext w w'):iB w' B wb own S nv av kv A K:=
 ⟨h.blk.ext hE,h.ge,h.nodes.ext hE,h.va.ext hE,h.vk.ext hE,h.la,h.lk,fun i v s h1 h2=>(h.ha i v s h1 h2).ext hE,fun i v s h1 h2=>(h.hk i v s h1 h2).ext hE⟩
theorem Held.updT{own:Nat→Nat}{M:Nat→Prop}{w w':World}{D D' e e' sz sz' q b:Nat}{cs:List Value}{t:TypeId}{u v:Value}{us xs:List (List Value)}(h:Held own M w D e sz q u us)(hv:Vec w D' e' sz' v xs)(hb:v.ownBlock=some b)(hU:mK w b cs t w')(hne:e≠e'):Held own M w' D e sz q u us:=
 h.upd hU (fun e1=>by
  rcases iT h.vec hv hne with h|h
  ·rw[h]at e1;cases e1
  ·exact h (by rw[e1,hb]))
theorem _root_.Go.V.Vec.updT{w w':World}{D D' e e' sz sz' b:Nat}{cs:List Value}{t:TypeId}{u v:Value}{us xs:List (List Value)}(h:Vec w D e sz u us)(hv:Vec w D' e' sz' v xs)(hb:v.ownBlock=some b)(hU:mK w b cs t w')(hne:e≠e'):Vec w' D e sz u us:=
 h.upd hU (fun e1=>by
  rcases iT h hv hne with h|h
  ·rw[h]at e1;cases e1
  ·exact h (by rw[e1,hb]))
theorem bQ.updT{w w':World}{D e sz b k t:Nat}{cs ds:List Value}{t':TypeId}{v:Value}{xs:List (List Value)}(h:bQ w k ds t)(hv:Vec w D e sz v xs)(hb:v.ownBlock=some b)(hU:mK w b cs t' w')(hne:t≠e):bQ w' k ds t:=
 hU.aF h (fun e1=>nR h hv hne (by rw[hb,e1]))
theorem posOf_some{x k:Nat}{l:List Nat}(hk:k<l.length)(h:l[k]=x)(hb:∀j (hj:j<l.length),j<k→l[j]≠x):posOf x l=some k:=by
 unfold posOf
 rw[List.findIdx?_eq_some_iff_getElem]
 exact⟨hk,by simpa using h,fun j hj=>by simpa using hb j (by omega) hj⟩
theorem posOf_none{x:Nat}{l:List Nat}(hb:∀j (hj:j<l.length),l[j]≠x):posOf x l=none:=by
 unfold posOf
 rw[List.findIdx?_eq_none_iff]
 intro y hy
 obtain⟨j,hj,rfl⟩:=List.mem_iff_getElem.1 hy
 simpa using hb j hj
def pJ(x:Nat)(l:List Nat):Int:=match posOf x l with
 | some k=>k
 | none=>-1
theorem find_con(v:Value)(l:List Nat)(x:Nat)(w:World)(hv:eO w v 1 (bS l)):bV Tryz.prog 203 #[v,.int .i64 x] w (fun v' w'=>v'=.int .i64 (pJ x l)∧w'=w):=by
 have hml:maxLen=9223372036854775807:=rfl
 obtain⟨o,c,rfl,h1,h2,h3⟩:=hv.ex
 rw[aO]at h1 hv ⊢
 refine enter aB Tryz.func203 (aV rfl) rfl rfl rfl ?_
 refine aH.mk (X:=Nat) (fun i=>[(0,.slice o l.length c),(1,.int .i64 x),(5,.int .i64 i)]) (fun i w'=>w'=w∧i≤l.length∧∀j (hj:j<l.length),j<i→l[j]≠x) (fun i=>l.length-i) 0 ⟨rfl,Nat.zero_le _,fun j hj h=>by omega⟩ ⟨rfl,rfl,rfl,trivial⟩ ?_
 rintro i w1 ⟨hw,hi,hb⟩
 have hw':=hw.symm
 subst hw'
 refine Cond.dec (fun g1=>?_) (fun g1=>?_)
 ·have hil:i<l.length:=by omega
  obtain⟨a,ha,hc⟩:=hv.el _ _ _ rfl i _ (vG hil)
  subst ha
  refine Idx.mk a rfl (by omega) (by omega) ?_
  refine Load.here (hc.one (k:=0) rfl) ?_
  refine Cond.dec (fun g2=>?_) (fun g2=>?_)
  ·refine And.intro ?_ rfl
   unfold pJ
   rw[posOf_some hil (by omega) hb]
   rfl
  ·refine Ar.aM (i+1) (by omega) (by omega) ?_
   refine⟨i+1,⟨rfl,by omega,fun j hj h=>?_⟩,by omega,rfl,rfl,rfl,trivial⟩
   by_cases e:j=i
   ·subst e;omega
   ·exact hb j hj (by omega)
 ·refine And.intro ?_ rfl
  unfold pJ
  rw[posOf_none (fun j hj=>hb j hj (by omega))]
  rfl
theorem put_con2(vl vm:Value)(l m:List Nat)(at_ out:Nat)(w:World)(hl:eO w vl 1 (bS l))(hm:eO w vm 1 (bS m))(hao:at_+out≤l.length)(hlb:l.length≤1000000000000)(hmb:m.length≤1000000000000) :
  bV Tryz.prog 204 #[vl,.int .i64 at_,.int .i64 out,vm] w (fun v' w'=>Vec w' w.heap.size 3 1 v' (bS (rH l at_ out m))∧Ext w w'):=by
 have hml:maxLen=9223372036854775807:=rfl
 obtain⟨o,c,rfl,h1,h2,h3⟩:=hl.ex
 rw[aO]at h1 hl ⊢
 refine enter aB Tryz.func204 (aV rfl) rfl rfl rfl ?_
 refine Need.mk ⟨by omega,by omega,by omega,by omega,by simp⟩ ?_
 rw[jG o at_ c]
 have ht:=rD hl (k:=at_) (by rw[aO];omega)
 have htl:((bS l).take at_).length=at_:=by rw[List.length_take,aO];omega
 have hone:∀y∈(bS l).take at_,y.length=1∧∀u∈y,u.oneCell'=true:=fun y hy=>gH l y (List.mem_of_mem_take hy)
 refine bD.append jS w.heap.size [] _ (Vec.nil _ _ _ _) ht hone (by rw[htl];simp only[List.length_nil];omega) (by rw[htl];simp only[List.length_nil];omega) (Nat.le_refl _) fun v1 w1 hv1 har1=>?_
 have hE1:Ext w w1:=har1.below (Nat.le_refl _) (fun b hb=>by cases hb)
 refine bD.append jS w.heap.size _ (bS m) hv1 (hm.ext hE1) (gH m) (by rw[List.nil_append,htl,aO];omega) (by rw[List.nil_append,htl,aO];omega) hE1.sz fun v2 w2 hv2 har2=>?_
 have hE2:Ext w w2:=Below.trans hE1 (har2.below hE1.sz fun b hb=>(hv1.ge hb).1)
 refine Ar.aM (at_+out) (by omega) (by omega) ?_
 refine Need.mk ⟨by omega,by omega,by omega,by omega,by simp⟩ ?_
 have hb:=SlAt_back (hl.ext hE2) (k:=at_+out) (by rw[aO];omega)
 have hbl:((bS l).drop (at_+out)).length=l.length-(at_+out):=by rw[List.length_drop,aO]
 refine bD.append jS w.heap.size _ _ hv2 hb (fun y hy=>gH l y (List.mem_of_mem_drop hy)) (by rw[List.nil_append,List.length_append,htl,aO,hbl];omega) (by rw[List.nil_append,List.length_append,htl,aO,hbl];omega) hE2.sz fun v3 w3 hv3 har3=>?_
 have hE3:Ext w w3:=Below.trans hE2 (har3.below hE2.sz fun b hb=>(hv2.ge hb).1)
 refine And.intro ?_ hE3
 have e:bS (rH l at_ out m)=[]++(bS l).take at_++bS m++(bS l).drop (at_+out):=by
  unfold rH bS
  simp
 rw[e]
 exact hv3
structure bT(q0:Nat)(own own1:Nat→Nat)(w w1:World):Prop where
 held:∀(D e sz q:Nat) (u:Value) (us:List (List Value)),q≠q0→Held own T0 w D e sz q u us→Held own1 T0 w1 D e sz q u us
 blk:∀(b:Nat) (cs:List Value),bQ w b cs 159→bQ w1 b cs 159
theorem bT.ext{q0:Nat}{own:Nat→Nat}{w w1:World}(hE:Ext w w1):bT q0 own own w w1:=⟨fun _ _ _ _ _ _ _ h=>h.ext hE,fun _ _ h=>h.ext hE⟩
theorem bT.extN{q0:Nat}{own:Nat→Nat}{w w1:World}(hE:Ext w w1):bT q0 own (gK own w.heap.size q0) w w1:=⟨fun _ _ _ _ _ _ _ h=>(h.gK q0 (Nat.le_refl _)).ext hE,fun _ _ h=>h.ext hE⟩
theorem bT.trans{q0:Nat}{own own1 own2:Nat→Nat}{a b c:World}(h:bT q0 own own1 a b)(k:bT q0 own1 own2 b c):bT q0 own own2 a c:=
 ⟨fun D e sz q u us hq x=>k.held D e sz q u us hq (h.held D e sz q u us hq x),fun b cs x=>k.blk b cs (h.blk b cs x)⟩
theorem Held.keepQ{own:Nat→Nat}{M:Nat→Prop}{w w':World}{D D' e e' sz sz' q k:Nat}{u v v':Value}{us xs:List (List Value)}(h:Held own M w D e sz q u us)(hv:Held own M w D' e' sz' k v xs)(ha:iO w v w' v')(hqk:q≠k):Held (YtelffdgcikceaaaGreatDoor.gK own w.heap.size k) M w' D e sz q u us:=
 ⟨ha.vec h.vec (h.ne hv hqk),(h.gK k (Nat.le_refl _)).tag⟩
theorem Held.yG{own:Nat→Nat}{w w':World}{D e sz k:Nat}{v v':Value}{xs ys:List (List Value)}(hv:Held own T0 w D e sz k v xs)(ha:iO w v w' v')(hv':Vec w' D e sz v' ys):Held (YtelffdgcikceaaaGreatDoor.gK own w.heap.size k) T0 w' D e sz k v' ys:=by
 refine⟨hv',fun g hg=>⟨?_,trivial⟩⟩
 unfold YtelffdgcikceaaaGreatDoor.gK
 rcases ha.fresh g hg with h|h
 ·rw[if_pos (hv.vec.ge h).2];exact(hv.tag g h).1
 ·rw[if_neg (by omega)]
theorem bT.app{q0 e sz D:Nat}{own:Nat→Nat}{w w1:World}{v v1:Value}{xs:List (List Value)}(hv:Held own T0 w D e sz q0 v xs)(ha:iO w v w1 v1)(he2:e≠159):bT q0 own (gK own w.heap.size q0) w w1:=
 ⟨fun _ _ _ _ _ _ hq h=>h.keepQ hv ha hq,fun _ _ h=>ha.blk h (nR h hv.vec (Ne.symm he2))⟩
theorem bT.upd{q1 e sz D g:Nat}{own:Nat→Nat}{w w1:World}{cs:List Value}{t:TypeId}{v:Value}{xs:List (List Value)}(hv:Held own T0 w D e sz q1 v xs)(hg:v.ownBlock=some g)(hU:mK w g cs t w1)(he2:e≠159):bT q1 own own w w1:=by
 refine⟨fun D e sz q u us hq h=>h.upd hU (fun e1=>?_),fun b cs h=>bQ.updT h hv.vec hg hU (Ne.symm he2)⟩
 rcases h.ne hv hq with h|h
 ·rw[h]at e1;cases e1
 ·exact h (by rw[e1,hg])
theorem Held.upd159{own:Nat→Nat}{M:Nat→Prop}{w w':World}{D e sz q b:Nat}{cs ds:List Value}{t:TypeId}{u:Value}{us:List (List Value)}(h:Held own M w D e sz q u us)(hb:bQ w b ds 159)(hU:mK w b cs t w')(he:e≠159):Held own M w' D e sz q u us:=h.upd hU (nR hb h.vec (Ne.symm he))
structure KeepW(q0:Nat)(own own1:Nat→Nat)(w w1:World):Prop where
 held:∀(D e sz q:Nat) (u:Value) (us:List (List Value)),q<2∨4<q→q≠q0→Held own T0 w D e sz q u us→Held own1 T0 w1 D e sz q u us
 blk:∀(b:Nat) (cs:List Value),bQ w b cs 159→bQ w1 b cs 159
theorem bT.w{q0:Nat}{own own1:Nat→Nat}{w w1:World}(h:bT q0 own own1 w w1):KeepW q0 own own1 w w1:=⟨fun D e sz q u us _ hq x=>h.held D e sz q u us hq x,h.blk⟩
theorem bT.wl{q0:Nat}{own own1:Nat→Nat}{w w1:World}(h:bT q0 own own1 w w1)(hq:2≤q0∧q0≤4)(q1:Nat):KeepW q1 own own1 w w1:=⟨fun D e sz q u us h1 _ x=>h.held D e sz q u us (by omega) x,h.blk⟩
section
variable {w w1 w2:World} {B wb:Nat} {own own1:Nat→Nat} {S:List PN} {nv av kv:Value} {A K:List Value}
theorem iB.setA(h:iB w B wb own S nv av kv A K){x:Nat}{s:PN}(hx:S[x]? = some s)(hk:KeepW (2*x+6) own own1 w w1){v1:Value}{l':List Nat}(hv1:Held own1 T0 w1 B 3 1 (2*x+6) v1 (bS l')){g:Nat}{cs:List Value}
  (hU:mK w1 g cs 126 w2) (hg:av.ownBlock=some g) (hav:Vec w2 B 126 1 av ((gP A).set x [v1])):iB w2 B wb own1 (S.set x { s with attrs:=l' }) nv av kv (A.set x v1) K:=by
 have hxl:=(List.getElem?_eq_some_iff.1 hx).1
 have ha1:=hk.held _ _ _ _ _ _ (by omega) (by omega) h.va
 obtain⟨k1,k3⟩:=bT.upd ha1 hg hU (by decide)
 refine⟨k3 _ _ (hk.blk _ _ h.blk),h.ge,?_,⟨by rw[←rQ];exact hav,ha1.tag⟩,k1 _ _ _ _ _ _ (by decide) (hk.held _ _ _ _ _ _ (by omega) (by omega) h.vk),by rw[List.length_set,List.length_set];exact h.la,by rw[List.length_set];exact h.lk,fun i v t h1 h2=>?_,fun i v t h1 h2=>?_⟩
 ·have e:((S.set x { s with attrs:=l' }).map mY)=S.map mY:=by
   rw[List.map_set]
   apply List.ext_getElem?
   intro i
   rw[List.getElem?_set]
   split
   ·rename_i e
    subst e
    rw[if_pos (by simpa using hxl),List.getElem?_map,hx]
    rfl
   ·rfl
  rw[e]
  exact k1 _ _ _ _ _ _ (by decide) (hk.held _ _ _ _ _ _ (by omega) (by omega) h.nodes)
 ·rw[List.getElem?_set]at h1 h2
  by_cases e:x=i
  ·subst e
   rw[if_pos rfl,if_pos (by rw[h.la];exact hxl)]at h1
   rw[if_pos rfl,if_pos hxl]at h2
   cases h1;cases h2
   exact k1 _ _ _ _ _ _ (by omega) hv1
  ·rw[if_neg e]at h1 h2
   exact k1 _ _ _ _ _ _ (by omega) (hk.held _ _ _ _ _ _ (by omega) (by omega) (h.ha i v t h1 h2))
 ·rw[List.getElem?_set]at h2
  by_cases e:x=i
  ·subst e
   rw[if_pos rfl,if_pos hxl]at h2
   cases h2
   exact k1 _ _ _ _ _ _ (by omega) (hk.held _ _ _ _ _ _ (by omega) (by omega) (h.hk x v s h1 hx))
  ·rw[if_neg e]at h2
   exact k1 _ _ _ _ _ _ (by omega) (hk.held _ _ _ _ _ _ (by omega) (by omega) (h.hk i v t h1 h2))
theorem iB.setK(h:iB w B wb own S nv av kv A K){x:Nat}{s:PN}(hx:S[x]? = some s)(hk:KeepW (2*x+7) own own1 w w1){v1:Value}{l':List Nat}(hv1:Held own1 T0 w1 B 3 1 (2*x+7) v1 (bS l')){g:Nat}{cs:List Value}
  (hU:mK w1 g cs 126 w2) (hg:kv.ownBlock=some g) (hav:Vec w2 B 126 1 kv ((gP K).set x [v1])):iB w2 B wb own1 (S.set x { s with kids:=l' }) nv av kv A (K.set x v1):=by
 have hxl:=(List.getElem?_eq_some_iff.1 hx).1
 have ha1:=hk.held _ _ _ _ _ _ (by omega) (by omega) h.vk
 obtain⟨k1,k3⟩:=bT.upd ha1 hg hU (by decide)
 refine⟨k3 _ _ (hk.blk _ _ h.blk),h.ge,?_,k1 _ _ _ _ _ _ (by decide) (hk.held _ _ _ _ _ _ (by omega) (by omega) h.va),⟨by rw[←rQ];exact hav,ha1.tag⟩,by rw[List.length_set];exact h.la,by rw[List.length_set,List.length_set];exact h.lk,fun i v t h1 h2=>?_,fun i v t h1 h2=>?_⟩
 ·have e:((S.set x { s with kids:=l' }).map mY)=S.map mY:=by
   rw[List.map_set]
   apply List.ext_getElem?
   intro i
   rw[List.getElem?_set]
   split
   ·rename_i e
    subst e
    rw[if_pos (by simpa using hxl),List.getElem?_map,hx]
    rfl
   ·rfl
  rw[e]
  exact k1 _ _ _ _ _ _ (by decide) (hk.held _ _ _ _ _ _ (by omega) (by omega) h.nodes)
 ·rw[List.getElem?_set]at h2
  by_cases e:x=i
  ·subst e
   rw[if_pos rfl,if_pos hxl]at h2
   cases h2
   exact k1 _ _ _ _ _ _ (by omega) (hk.held _ _ _ _ _ _ (by omega) (by omega) (h.ha x v s h1 hx))
  ·rw[if_neg e]at h2
   exact k1 _ _ _ _ _ _ (by omega) (hk.held _ _ _ _ _ _ (by omega) (by omega) (h.ha i v t h1 h2))
 ·rw[List.getElem?_set]at h1 h2
  by_cases e:x=i
  ·subst e
   rw[if_pos rfl,if_pos (by rw[h.lk];exact hxl)]at h1
   rw[if_pos rfl,if_pos hxl]at h2
   cases h1;cases h2
   exact k1 _ _ _ _ _ _ (by omega) hv1
  ·rw[if_neg e]at h1 h2
   exact k1 _ _ _ _ _ _ (by omega) (hk.held _ _ _ _ _ _ (by omega) (by omega) (h.hk i v t h1 h2))
theorem iB.put(h:iB w B wb own S nv av kv A K){x:Nat}{s s':PN}(hx:S[x]? = some s)(e1:s'.attrs=s.attrs)(e2:s'.kids=s.kids){g:Nat}{cs:List Value}(hU:mK w g cs 50 w1)(hg:nv.ownBlock=some g)
  (hnv:Vec w1 B 50 4 nv (((S.set x s').map mY).map Nd.cells)):iB w1 B wb own (S.set x s') nv av kv A K:=by
 have hxl:=(List.getElem?_eq_some_iff.1 hx).1
 have key:=(bT.upd h.nodes hg hU (by decide)).held
 have old:∀(i:Nat) (t:PN),(S.set x s')[i]? = some t→∃t',S[i]? = some t'∧t.attrs=t'.attrs∧t.kids=t'.kids:=fun i t ht=>by
  rw[List.getElem?_set]at ht
  by_cases e:x=i
  ·subst e
   rw[if_pos rfl,if_pos hxl]at ht
   cases ht
   exact⟨s,hx,e1,e2⟩
  ·rw[if_neg e]at ht
   exact⟨t,ht,rfl,rfl⟩
 refine⟨bQ.updT h.blk h.nodes.vec hg hU (by decide),h.ge,⟨hnv,h.nodes.tag⟩,key _ _ _ _ _ _ (by decide) h.va,key _ _ _ _ _ _ (by decide) h.vk,by rw[List.length_set];exact h.la,by rw[List.length_set];exact h.lk,fun i v t h1 h2=>?_,fun i v t h1 h2=>?_⟩
 ·obtain⟨t',h3,h4,-⟩:=old i t h2
  rw[h4]
  exact key _ _ _ _ _ _ (by omega) (h.ha i v t' h1 h3)
 ·obtain⟨t',h3,-,h4⟩:=old i t h2
  rw[h4]
  exact key _ _ _ _ _ _ (by omega) (h.hk i v t' h1 h3)
end
theorem sO(wb B Bl u q:Nat)(own:Nat→Nat)(S:List PN)(nv av kv vl:Value)(A K:List Value)(l:List Nat)(w:World)(h:iB w B wb own S nv av kv A K)(hl:Held own T0 w Bl 3 1 q vl (bS l))(hq:q≠5)(hlt:∀i∈l,i<S.length)(hlen:l.length≤1000000000000) :
  bV Tryz.prog 173 #[.pointer (some ⟨wb,0,none⟩),vl,.int .i64 u] w (fun _ w'=>iB w' B wb own (bE S u l) nv av kv A K∧bT 5 own own w w'∧Ch (fun k=>B≤k) w w'):=by
 have hml:maxLen=9223372036854775807:=rfl
 obtain⟨o,c,rfl,h1,h2,h3,-,-⟩:=hl.vec.shape
 rw[aO]at h1 hl ⊢
 obtain⟨on,cn,hne,-,-,-,-,-⟩:=h.nodes.vec.shape
 simp only[List.length_map]at hne
 subst hne
 refine enter aB Tryz.func173 (aV rfl) rfl rfl rfl ?_
 refine aH.mk (X:=Nat) (fun i=>[(0,.pointer (some ⟨wb,0,none⟩)),(1,.slice o l.length c),(2,.int .i64 u),(6,.int .i64 i)])
  (fun i w'=>iB w' B wb own (bE S u (l.take i)) (.slice on S.length cn) av kv A K∧Ch (fun k=>B≤k) w w'∧i≤l.length∧Held own T0 w' Bl 3 1 q (.slice o l.length c) (bS l)∧bT 5 own own w w') (fun i=>l.length-i) 0 ⟨h,Ch.refl _ _,Nat.zero_le _,hl,.ext (Ext.refl _)⟩ ⟨rfl,rfl,rfl,rfl,trivial⟩ ?_
 rintro i w1 ⟨hW,hC,hi,hl1,hX⟩
 refine Cond.dec (fun g1=>?_) (fun g1=>?_)
 ·have hil:i<l.length:=by omega
  have hli:=hlt _ (List.getElem_mem hil)
  refine aQ.mk aB mixed (allT 0 11++[(11,false)]) [11] (by kernel_rfl) (fun w'=>w'=w1.drew) rfl ?_
  have hWd:=hW.ext (Ext.drew w1)
  have hld:=hl1.ext (Ext.drew w1)
  refine Load.here (hWd.blk.cells.one (k:=0) rfl) ?_
  obtain⟨a,ha,hc⟩:=hld.vec.sl.el _ _ _ rfl i _ (vG hil)
  subst ha
  refine Idx.mk a rfl (by omega) (by omega) ?_
  refine Load.here (hc.one (k:=0) rfl) ?_
  have hSl:(bE S u (l.take i)).length=S.length:=aZ _ _ _
  have hli2:l[i]<(bE S u (l.take i)).length:=by omega
  obtain⟨s,hs⟩:∃s,(bE S u (l.take i))[l[i]]? = some s:=⟨_,List.getElem?_eq_getElem hli2⟩
  obtain⟨g,cap,cur,hge,hgB,hgl,hBg,hcl,hown,hput⟩:=hWd.nodes.vec.put (k:=l[i]) (off:=3) (by simp only[List.length_map];omega) [.int .i64 u] (by simp)
  simp only[Value.slice.injEq]at hge
  obtain⟨hbe,-,-⟩:=hge
  refine Idx.mk ⟨g,0,none⟩ hbe (by omega) (by omega) ?_
  refine bA.store g (l[i]*4+3) cur [.int .i64 u] 50 (by rw[bW,bW];simp) rfl (by kernel_rfl) hBg (by simpa using hcl) (fun y hy=>by rw[List.mem_singleton.1 hy];rfl) fun w2 hU=>?_
  have hnv:=hput w2 hU
  have X2:=bT.upd hWd.nodes hown hU (by decide)
  have hst:bE S u (l.take (i+1))=(bE S u (l.take i)).set l[i] (qZ s u):=by
   rw[List.take_succ_eq_append_getElem hil,takeF_snoc]
   unfold jN
   rw[hs]
  have hcs:(((bE S u (l.take i)).map mY).map Nd.cells).set l[i] (splice ((((bE S u (l.take i)).map mY).map Nd.cells)[l[i]]'(by simp only[List.length_map];omega)) 3 [.int .i64 u])=(((bE S u (l.take i)).set l[i] (qZ s u)).map mY).map Nd.cells:=by
   rw[List.map_set,List.map_set]
   congr 1
   have:(bE S u (l.take i))[l[i]]'(by omega)=s:=by
    have:=List.getElem?_eq_getElem (l:=bE S u (l.take i)) (i:=l[i]) (by omega)
    rw[hs]at this
    exact(Option.some.inj this).symm
   rw[List.getElem_map,List.getElem_map,this]
   rfl
  rw[hcs]at hnv
  refine Ar.aM (i+1) (by omega) (by omega) ?_
  refine⟨i+1,⟨?_,(hC.trans (.aL (Ext.drew w1))).trans (.bG hU hgB),by omega,X2.held _ _ _ _ _ _ hq hld,(hX.trans (.ext (Ext.drew w1))).trans X2⟩,by omega,rfl,rfl,rfl,rfl,trivial⟩
  rw[hst]
  exact hWd.put hs rfl rfl hU hown hnv
 ·have hin:i=l.length:=by omega
  subst hin
  rw[List.take_length]at hW
  exact And.intro hW ⟨hX,hC⟩
end Go.Proofs.YtelffdgcikceaaaGreatDoor
end
section
namespace Go.Proofs.YtelffdgcikceaaaGreatDoor
open Go.V
open Go.RowKit (Below)
def oP(own own1:Nat→Nat)(w w1:World):Prop:=∀(D e sz q:Nat) (u:Value) (us:List (List Value)),2≤q→q≤4→e≠159→Held own T0 w D e sz q u us→Held own1 T0 w1 D e sz q u us
theorem oP.refl(own:Nat→Nat)(w:World):oP own own w w:=fun _ _ _ _ _ _ _ _ _ h=>h
theorem oP.trans{own own1 own2:Nat→Nat}{a b c:World}(h:oP own own1 a b)(k:oP own1 own2 b c):oP own own2 a c:=fun D e sz q u us h1 h2 h3 x=>k D e sz q u us h1 h2 h3 (h D e sz q u us h1 h2 h3 x)
theorem oP.ext{own:Nat→Nat}{w w1:World}(hE:Ext w w1):oP own own w w1:=fun _ _ _ _ _ _ _ _ _ h=>h.ext hE
theorem bT.l{q0:Nat}{own own1:Nat→Nat}{w w1:World}(h:bT q0 own own1 w w1)(hq:q0<2∨4<q0):oP own own1 w w1:=fun D e sz q u us h1 h2 h3 x=>h.held D e sz q u us (by omega) x
theorem run_build74(w:World):(Instr.buildSlice 74 1 #[(0,.slice none 0 0)]).run Tryz.prog w=.ok (.slice (some ⟨w.heap.size,0,none⟩) 1 1) (w.alloc (.cells #[.slice none 0 0] 126)):=by kernel_rfl
set_option maxHeartbeats 1600000 in
theorem add_con(wb B:Nat)(own:Nat→Nat)(S:List PN)(nv av kv:Value)(A K:List Value)(n:Nd)(s0:PN)(hs0:mY s0=n)(hs1:s0.attrs=[])(hs2:s0.kids=[])(w:World)(h:iB w B wb own S nv av kv A K)(hSl:S.length≤1000000000)(hB:B≤w.heap.size) :
  bV Tryz.prog 172 #[.pointer (some ⟨wb,0,none⟩),.agg n.cells.toArray] w (fun v w'=>v=.int .i64 S.length∧∃own' nv' av' kv',iB w' B wb own' (S++[s0]) nv' av' kv' (A++[.slice none 0 0]) (K++[.slice none 0 0])∧oP own own' w w'∧Ch (fun k=>B≤k) w w'):=by
 have hml:maxLen=9223372036854775807:=rfl
 have hla:=h.la
 have hlk:=h.lk
 obtain⟨nk,nn,nx,np⟩:=n
 refine enter aB Tryz.func172 (aV rfl) rfl rfl rfl ?_
 refine aG.box (Nd.cells ⟨nk,nn,nx,np⟩) rfl fun b1 w1 n1=>?_
 refine aQ.mk aB mixed [(0,true),(1,true),(2,true),(3,true),(4,true),(5,true),(6,false),(7,false),(8,true),(9,true),(10,false)] [7,10] (by kernel_rfl) (fun w'=>Ext w1.drew w') (Ext.refl _) ?_
 have hE1:Ext w w1.drew:=n1.ext.trans (Ext.drew w1)
 have h1:=h.ext hE1
 have hb1:=n1.blk.ext (Ext.drew w1)
 refine Load.mk nv (fun w' hE=>(h1.ext hE).blk.cells.one (k:=0) rfl) ?_
 refine Load.mk (.agg (Nd.cells ⟨nk,nn,nx,np⟩).toArray) (fun w' hE=>(hb1.ext hE).cells.all' rfl) ?_
 refine aG.mk _ _ (aY _ _ _ _ _) ?_
 obtain⟨w2,hw2⟩:∃w',w'=w1.drew.alloc (.cells (Nd.cells ⟨nk,nn,nx,np⟩).toArray 50):=⟨_,rfl⟩
 have n2:bO w1.drew w1.drew.heap.size (Nd.cells ⟨nk,nn,nx,np⟩) 50 w2:=⟨rfl,hw2⟩
 refine Need.mk (by exact hw2▸n2.ext) ?_
 refine(show _ from ?_:bD _ _ w2 _) |> fun h=>by rw[hw2]at h;exact h
 have hE2:=hE1.trans n2.ext
 have h2:=h.ext hE2
 have hB2:B≤w2.heap.size:=Nat.le_trans hB hE2.sz
 refine bD.append bI B _ [Nd.cells ⟨nk,nn,nx,np⟩] h2.nodes.vec (aT n2) (fun y hy=>by
  rw[List.mem_singleton.1 hy]
  exact⟨rfl,Nd.cells_one _⟩) (by simp only[List.length_map,List.length_singleton];omega) (by simp only[List.length_map,List.length_singleton];omega) hB2 fun nv3 w3 hnv3 har3=>?_
 have X3:=bT.app h2.nodes har3 (by decide)
 have nv3H:=h2.nodes.yG har3 hnv3
 have hblk3:=X3.blk _ _ h2.blk
 obtain⟨o3,c3,he3,-,-,-,-,-⟩:=hnv3.shape
 refine bA.store wb 0 _ [nv3] 159 rfl (by rw[he3];rfl) (by kernel_rfl) hblk3 (by simp) (fun u hu=>by rw[List.mem_singleton.1 hu,he3];rfl) fun w4 hU4=>?_
 have hblk4:bQ w4 wb [nv3,av,kv] 159:=hU4.blk
 have keep4:∀(D e sz q:Nat) (u:Value) (us:List (List Value)),q≠5→e≠159→Held own T0 w2 D e sz q u us→Held (gK own w2.heap.size 5) T0 w4 D e sz q u us:=fun D e sz q u us he he2 hh=>(X3.held _ _ _ _ _ _ he hh).upd159 hblk3 hU4 he2
 have hnv4:=nv3H.upd159 hblk3 hU4 (by decide)
 have hC4:Ch (fun k=>B≤k) w w4:=((Ch.aL hE2).trans (.cO har3 (fun b hb=>(h2.nodes.vec.ge hb).1))).trans (.bG hU4 h.ge)
 have L4:oP own (gK own w2.heap.size 5) w w4:=fun D e sz q u us q1 q2 q3 hh=>keep4 _ _ _ _ _ _ (by omega) q3 (hh.ext hE2)
 have va4:=keep4 _ _ _ _ _ _ (by decide) (by decide) h2.va
 have vk4:=keep4 _ _ _ _ _ _ (by decide) (by decide) h2.vk
 have ha4:∀(i:Nat) (v:Value) (s:PN),A[i]? = some v→S[i]? = some s→_:=fun i v s x y=>keep4 _ _ _ _ _ _ (by omega) (by decide) (h2.ha i v s x y)
 have hk4:∀(i:Nat) (v:Value) (s:PN),K[i]? = some v→S[i]? = some s→_:=fun i v s x y=>keep4 _ _ _ _ _ _ (by omega) (by decide) (h2.hk i v s x y)
 generalize gK own w2.heap.size 5=own4 at *
 refine Load.here (hblk4.cells.one (k:=1) rfl) ?_
 refine aG.mk _ _ (run_build74 _) ?_
 obtain⟨w5,hw5⟩:∃w',w'=w4.alloc (.cells #[.slice none 0 0] 126):=⟨_,rfl⟩
 have n5:bO w4 w4.heap.size [.slice none 0 0] 126 w5:=⟨rfl,hw5⟩
 rw[←hw5]
 have hE5:=n5.ext
 have va5:=va4.ext hE5
 have hB5:B≤w5.heap.size:=Nat.le_trans hB (Nat.le_trans hC4.size hE5.sz)
 refine bD.append elem74 B _ [[.slice none 0 0]] va5.vec (aT n5) (fun y hy=>by
  rw[List.mem_singleton.1 hy]
  exact⟨rfl,fun u hu=>by rw[List.mem_singleton.1 hu];rfl⟩) (by rw[bK,List.length_singleton];omega) (by rw[bK,List.length_singleton];omega) hB5 fun av6 w6 hav6 har6=>?_
 have X6:=bT.app va5 har6 (by decide)
 have va6:=va5.yG har6 hav6
 have hblk6:=X6.blk _ _ (hblk4.ext hE5)
 obtain⟨o6,c6,he6,-,-,-,-,-⟩:=hav6.shape
 refine bA.store wb 1 _ [av6] 159 rfl (by rw[he6];rfl) (by kernel_rfl) hblk6 (by simp) (fun u hu=>by rw[List.mem_singleton.1 hu,he6];rfl) fun w7 hU7=>?_
 have hblk7:bQ w7 wb [nv3,av6,kv] 159:=hU7.blk
 have keep7:∀(D e sz q:Nat) (u:Value) (us:List (List Value)),q≠0→e≠159→Held own4 T0 w4 D e sz q u us→Held (gK own4 w5.heap.size 0) T0 w7 D e sz q u us:=fun D e sz q u us hq he2 hh=>(X6.held _ _ _ _ _ _ hq (hh.ext hE5)).upd159 hblk6 hU7 he2
 have hnv7:=keep7 _ _ _ _ _ _ (by decide) (by decide) hnv4
 have hC7:Ch (fun k=>B≤k) w w7:=((hC4.trans (.aL hE5)).trans (.cO har6 (fun b hb=>(va5.vec.ge hb).1))).trans (.bG hU7 h.ge)
 have L7:oP own (gK own4 w5.heap.size 0) w w7:=L4.trans fun D e sz q u us q1 q2 q3 hh=>keep7 _ _ _ _ _ _ (by omega) q3 hh
 have va7:=va6.upd159 hblk6 hU7 (by decide)
 have vk7:=keep7 _ _ _ _ _ _ (by decide) (by decide) vk4
 have ha7:∀(i:Nat) (v:Value) (s:PN),A[i]? = some v→S[i]? = some s→_:=fun i v s x y=>keep7 _ _ _ _ _ _ (by omega) (by decide) (ha4 i v s x y)
 have hk7:∀(i:Nat) (v:Value) (s:PN),K[i]? = some v→S[i]? = some s→_:=fun i v s x y=>keep7 _ _ _ _ _ _ (by omega) (by decide) (hk4 i v s x y)
 generalize gK own4 w5.heap.size 0=own7 at *
 refine Load.here (hblk7.cells.one (k:=2) rfl) ?_
 refine aG.mk _ _ (run_build74 _) ?_
 obtain⟨w8,hw8⟩:∃w',w'=w7.alloc (.cells #[.slice none 0 0] 126):=⟨_,rfl⟩
 have n8:bO w7 w7.heap.size [.slice none 0 0] 126 w8:=⟨rfl,hw8⟩
 rw[←hw8]
 have hE8:=n8.ext
 have vk8:=vk7.ext hE8
 have hB8:B≤w8.heap.size:=Nat.le_trans hB (Nat.le_trans hC7.size hE8.sz)
 refine bD.append elem74 B _ [[.slice none 0 0]] vk8.vec (aT n8) (fun y hy=>by
  rw[List.mem_singleton.1 hy]
  exact⟨rfl,fun u hu=>by rw[List.mem_singleton.1 hu];rfl⟩) (by rw[bK,List.length_singleton];omega) (by rw[bK,List.length_singleton];omega) hB8 fun kv9 w9 hkv9 har9=>?_
 have X9:=bT.app vk8 har9 (by decide)
 have vk9:=vk8.yG har9 hkv9
 have hblk9:=X9.blk _ _ (hblk7.ext hE8)
 obtain⟨o9,c9,he9,-,-,-,-,-⟩:=hkv9.shape
 refine bA.store wb 2 _ [kv9] 159 rfl (by rw[he9];rfl) (by kernel_rfl) hblk9 (by simp) (fun u hu=>by rw[List.mem_singleton.1 hu,he9];rfl) fun wA hUA=>?_
 have hblkA:bQ wA wb [nv3,av6,kv9] 159:=hUA.blk
 have keepA:∀(D e sz q:Nat) (u:Value) (us:List (List Value)),q≠1→e≠159→Held own7 T0 w7 D e sz q u us→Held (gK own7 w8.heap.size 1) T0 wA D e sz q u us:=fun D e sz q u us hq he2 hh=>(X9.held _ _ _ _ _ _ hq (hh.ext hE8)).upd159 hblk9 hUA he2
 have hnvA:=keepA _ _ _ _ _ _ (by decide) (by decide) hnv7
 have hCA:Ch (fun k=>B≤k) w wA:=((hC7.trans (.aL hE8)).trans (.cO har9 (fun b hb=>(vk8.vec.ge hb).1))).trans (.bG hUA h.ge)
 have LA:oP own (gK own7 w8.heap.size 1) w wA:=L7.trans fun D e sz q u us q1 q2 q3 hh=>keepA _ _ _ _ _ _ (by omega) q3 hh
 have vaA:=keepA _ _ _ _ _ _ (by decide) (by decide) va7
 have vkA:=vk9.upd159 hblk9 hUA (by decide)
 have haA:∀(i:Nat) (v:Value) (s:PN),A[i]? = some v→S[i]? = some s→_:=fun i v s x y=>keepA _ _ _ _ _ _ (by omega) (by decide) (ha7 i v s x y)
 have hkA:∀(i:Nat) (v:Value) (s:PN),K[i]? = some v→S[i]? = some s→_:=fun i v s x y=>keepA _ _ _ _ _ _ (by omega) (by decide) (hk7 i v s x y)
 refine Load.here (hblkA.cells.one (k:=0) rfl) ?_
 rw[he3]
 simp only[List.length_append,List.length_map,List.length_singleton]
 refine Ar.aM (S.length) (by omega) (by omega) ?_
 rw[he3]at hblkA hnvA
 have one:∀{α:Type} (L:List α) (x y:α) (i:Nat),(L++[x])[i]? = some y→L[i]? = some y∨(i=L.length∧y=x):=fun L x y i hh=>by
  rcases kV hh with ⟨-,h⟩|h
  ·exact .inl h
  ·exact .inr h
 refine And.intro rfl ⟨_,_,_,_,⟨hblkA,h.ge,?_,by rw[yH];exact vaA,by rw[yH];exact vkA,by simp[hla],by simp[hlk],fun i v s x y=>?_,fun i v s x y=>?_⟩,LA,hCA⟩
 ·have e:(((S++[s0]).map mY).map Nd.cells)=((S.map mY).map Nd.cells)++[Nd.cells ⟨nk,nn,nx,np⟩]:=by simp[hs0]
  rw[e]
  exact hnvA
 ·have hx:=one A _ v i x
  have hy:=one S _ s i y
  rcases hx with hx|⟨hx,rfl⟩<;>rcases hy with hy|⟨hy,rfl⟩
  ·exact haA i v s hx hy
  ·have:=(List.getElem?_eq_some_iff.1 hx).1;omega
  ·have:=(List.getElem?_eq_some_iff.1 hy).1;omega
  ·rw[hs1];exact⟨Vec.nil _ _ _ _,fun g hg=>by cases hg⟩
 ·have hx:=one K _ v i x
  have hy:=one S _ s i y
  rcases hx with hx|⟨hx,rfl⟩<;>rcases hy with hy|⟨hy,rfl⟩
  ·exact hkA i v s hx hy
  ·have:=(List.getElem?_eq_some_iff.1 hx).1;omega
  ·have:=(List.getElem?_eq_some_iff.1 hy).1;omega
  ·rw[hs2];exact⟨Vec.nil _ _ _ _,fun g hg=>by cases hg⟩
def lI(own own1:Nat→Nat)(w w1:World):Prop:=∀(D e sz:Nat) (u:Value) (us:List (List Value)),e≠159→Held own T0 w D e sz 4 u us→Held own1 T0 w1 D e sz 4 u us
theorem lI.refl(own:Nat→Nat)(w:World):lI own own w w:=fun _ _ _ _ _ _ h=>h
theorem lI.trans{own own1 own2:Nat→Nat}{a b c:World}(h:lI own own1 a b)(k:lI own1 own2 b c):lI own own2 a c:=fun D e sz u us he x=>k D e sz u us he (h D e sz u us he x)
theorem lI.ext{own:Nat→Nat}{w w1:World}(hE:Ext w w1):lI own own w w1:=fun _ _ _ _ _ _ h=>h.ext hE
theorem oP.nE{own own1:Nat→Nat}{w w1:World}(h:oP own own1 w w1):lI own own1 w w1:=fun D e sz u us he x=>h D e sz 4 u us (by decide) (by decide) he x
theorem bT.nE{q0:Nat}{own own1:Nat→Nat}{w w1:World}(h:bT q0 own own1 w w1)(hq:q0≠4):lI own own1 w w1:=fun D e sz u us he x=>h.held D e sz 4 u us (Ne.symm hq) x
theorem pR(i:Int)(w:World):(Instr.buildSlice 126 1 #[(0,.int .i64 i)]).run Tryz.prog w=.ok (.slice (some ⟨w.heap.size,0,none⟩) 1 1) (w.alloc (.cells #[.int .i64 i] 3)):=by kernel_rfl
theorem iB.keep{q0 B wb:Nat}{own own1:Nat→Nat}{w w1:World}{S:List PN}{nv av kv:Value}{A K:List Value}(h:iB w B wb own S nv av kv A K)(hk:bT q0 own own1 w w1)(hq:2≤q0∧q0≤4):iB w1 B wb own1 S nv av kv A K:=
 ⟨hk.blk _ _ h.blk,h.ge,hk.held _ _ _ _ _ _ (by omega) h.nodes,hk.held _ _ _ _ _ _ (by omega) h.va,hk.held _ _ _ _ _ _ (by omega) h.vk,h.la,h.lk,fun i v s h1 h2=>hk.held _ _ _ _ _ _ (by omega) (h.ha i v s h1 h2),fun i v s h1 h2=>hk.held _ _ _ _ _ _ (by omega) (h.hk i v s h1 h2)⟩
structure nH(w w':World)(B wb:Nat)(own own':Nat→Nat)(S':List PN)(at_ kd:List Nat)(va vk:Value):Prop where
 work:∃nv av kv A K,iB w' B wb own' S' nv av kv A K
 at_:Held own' T0 w' B 3 1 2 va (bS at_)
 kd:Held own' T0 w' B 3 1 3 vk (bS kd)
 keep:lI own own' w w'
 ch:Ch (fun k=>B≤k) w w'
theorem nH.local{w w' w2:World}{B wb:Nat}{own own' own2:Nat→Nat}{S':List PN}{at_ kd kd' at_':List Nat}{va vk va' vk':Value}(h:nH w w' B wb own own' S' at_ kd va vk){q0:Nat}(hq:q0=2∨q0=3)(hX:bT q0 own' own2 w' w2)(hC:Ch (fun k=>B≤k) w' w2)
  (h1:Held own2 T0 w2 B 3 1 2 va' (bS at_')) (h2:Held own2 T0 w2 B 3 1 3 vk' (bS kd')):nH w w2 B wb own own2 S' at_' kd' va' vk':=by
 obtain⟨nv,av,kv,A,K,hW⟩:=h.work
 exact⟨⟨nv,av,kv,A,K,hW.keep hX (by omega)⟩,h1,h2,h.keep.trans (hX.nE (by omega)),h.ch.trans hC⟩
theorem lI.extN{own:Nat→Nat}{w w1:World}(hE:Ext w w1):lI own (gK own w.heap.size 4) w w1:=fun _ _ _ _ _ _ h=>(h.gK 4 (Nat.le_refl _)).ext hE
theorem nH.extN{w w' w2:World}{B wb:Nat}{own own':Nat→Nat}{S':List PN}{at_ kd:List Nat}{va vk:Value}(h:nH w w' B wb own own' S' at_ kd va vk)(hE:Ext w' w2):nH w w2 B wb own (gK own' w'.heap.size 4) S' at_ kd va vk:=by
 obtain⟨nv,av,kv,A,K,hW⟩:=h.work
 have hX:=bT.extN (q0:=4) (own:=own') hE
 exact⟨⟨nv,av,kv,A,K,hW.keep hX (by decide)⟩,hX.held _ _ _ _ _ _ (by decide) h.at_,hX.held _ _ _ _ _ _ (by decide) h.kd,h.keep.trans (lI.extN hE),h.ch.trans (.aL hE)⟩
theorem bO.held{own:Nat→Nat}{w w1 w2:World}{b:Nat}{cs:List Value}{t:TypeId}(h:bO w1 b cs t w2)(hE:Ext w w1):Held (gK own w.heap.size 4) T0 w2 0 t cs.length 4 (.slice (some ⟨b,0,none⟩) 1 1) [cs]:=by
 refine⟨Vec.wM (xs:=[cs]) (sz:=cs.length) h (by simp) (fun x hx=>by rw[List.mem_singleton.1 hx]) (by simp[maxLen]) (Nat.zero_le _),fun g hg=>⟨?_,trivial⟩⟩
 have e1:some b=some g:=hg
 cases e1
 unfold gK
 rw[if_neg]
 have:=hE.sz
 rw[h.b_eq]
 omega
theorem Held.blk1{own:Nat→Nat}{w:World}{b q:Nat}{cs:List Value}{t:TypeId}{sz:Nat}(h:Held own T0 w 0 t sz q (.slice (some ⟨b,0,none⟩) 1 1) [cs]):Cells w ⟨b,0,none⟩ cs:=by
 obtain⟨a,e,hc⟩:=h.vec.sl.el _ _ _ rfl 0 cs rfl
 cases e
 rw[Nat.zero_mul,add_zero]at hc
 exact hc
set_option maxHeartbeats 6400000 in
theorem row_con(wb B:Nat)(own:Nat→Nat)(S:List PN)(nv av kv vl:Value)(A K:List Value)(l:List Nd)(w:World)(h:iB w B wb own S nv av kv A K)(hSl:S.length≤500000000)(hB:B≤w.heap.size)
  (hl:∀w' own',lI own own' w w'→Ch (fun k=>B≤k) w w'→aJ w' vl l) (hll:l.length≤400000000) (hord:nG l) (hpm:∀x∈l,-1≤x.parent) :
  bV Tryz.prog 117 #[.pointer (some ⟨wb,0,none⟩),vl] w (fun v w'=>∃own' va vk,v=.tuple #[va,vk]∧nH w w' B wb own own' (dI S l).S (dI S l).at_ (dI S l).kd va vk):=by
 have hml:maxLen=9223372036854775807:=rfl
 have hl0:=hl w own (.refl _ _) (.refl _ _)
 obtain⟨o,c,rfl,-,-,-,-⟩:=hl0.open_
 obtain⟨on,cn,hne,-,-,-,-,-⟩:=h.nodes.vec.shape
 simp only[List.length_map]at hne
 subst hne
 have hcel:∀w' own',lI own own' w w'→Ch (fun k=>B≤k) w w'→∀i (hi:i<l.length),∃a,o=some a∧Cells w' (a.add (i*4)) (l[i]).cells:=fun w' own' h1 h2 i hi=>(hl w' own' h1 h2).sl.el _ _ _ rfl i _ (by rw[List.getElem?_map,List.getElem?_eq_getElem hi];rfl)
 refine enter aB Tryz.func117 (aV rfl) rfl rfl rfl ?_
 refine Load.here (h.blk.cells.one (k:=0) rfl) ?_
 refine aH.mk (X:=Nat × Value × Value × (Nat→Nat)) (fun x=>[(0,.pointer (some ⟨wb,0,none⟩)),(1,.slice o l.length c),(6,.int .i64 S.length),(7,x.2.1),(8,x.2.2.1),(9,.int .i64 x.1)])
  (fun x w'=>x.1≤l.length∧nH w w' B wb own x.2.2.2 (fF S.length ⟨S,[],[]⟩ (l.take x.1)).S (fF S.length ⟨S,[],[]⟩ (l.take x.1)).at_ (fF S.length ⟨S,[],[]⟩ (l.take x.1)).kd x.2.1 x.2.2.1) (fun x=>l.length-x.1) (0,.slice none 0 0,.slice none 0 0,own)
  ⟨Nat.zero_le _,⟨⟨_,_,_,_,_,h⟩,⟨Vec.nil _ _ _ _,fun g hg=>by cases hg⟩,⟨Vec.nil _ _ _ _,fun g hg=>by cases hg⟩,.refl _ _,.refl _ _⟩⟩ ⟨rfl,rfl,rfl,rfl,rfl,rfl,trivial⟩ ?_
 rintro⟨i,va,vk,own1⟩ w1 ⟨hi,hR⟩
 simp only at hi hR ⊢
 have hbd:=apRun_bd S.length (l.take i) ⟨S,[],[]⟩ 0 ⟨by simp,by simp,fun i s hi hs=>by
  have:i<S.length:=(List.getElem?_eq_some_iff.1 hs).1
  omega⟩ (Nat.le_refl _)
 have hlen:(fF S.length ⟨S,[],[]⟩ (l.take i)).S.length=S.length+i:=by
  rw[apRun_len,List.length_take]
  simp only
  omega
 refine Cond.dec (fun g1=>?_) (fun g1=>?_)
 ·have hil:i<l.length:=by omega
  have hst1:fF S.length ⟨S,[],[]⟩ (l.take (i+1))=cK S.length (fF S.length ⟨S,[],[]⟩ (l.take i)) l[i]:=by rw[List.take_succ_eq_append_getElem hil,wU]
  have hop:=hord i hil
  have hmp:=hpm _ (List.getElem_mem hil)
  have hwf:=hl0.wf _ (List.getElem_mem hil)
  obtain⟨a,ha,hc⟩:=hcel w1 own1 hR.keep hR.ch i hil
  subst ha
  generalize fF S.length ⟨S,[],[]⟩ (l.take i)=st at *
  generalize l[i]=n at *
  obtain⟨nk,nn,nx,np⟩:=n
  simp only at hop hmp
  refine Idx.mk a rfl (by omega) (by omega) ?_
  refine Load.here (hc.all' rfl) ?_
  refine aG.alloc _ [.int .u8 0,.string ⟨#[]⟩,.string ⟨#[]⟩,.int .i64 0] mU rfl fun b w2 n2=>?_
  refine bA.store b 0 _ (Nd.cells ⟨nk,nn,nx,np⟩) 50 rfl rfl (by kernel_rfl) n2.blk (by simp[Nd.cells]) (Nd.cells_one _) fun w3 hU=>?_
  have n3:=n2.upd hU
  have hb3:bQ w3 b [.int .u8 nk,.string nn,.string nx,.int .i64 np] 50:=n3.blk
  refine Load.here (hb3.cells.one (k:=3) rfl) ?_
  have hBw1:B≤w1.heap.size:=Nat.le_trans hB hR.ch.size
  refine Cond.dec (fun g2=>?_) (fun g2=>?_)
  ·
   obtain⟨u,hu⟩:∃u,u=S.length+np.toNat:=⟨_,rfl⟩
   refine Ar.aM (u) (by omega) (by omega) ?_
   refine bA.store b 3 _ [.int .i64 u] 50 rfl rfl (by kernel_rfl) hb3 (by simp) (fun y hy=>by rw[List.mem_singleton.1 hy];rfl) fun w4 hU4=>?_
   have n4:bO w1 b (Nd.cells ⟨nk,nn,nx,u⟩) 50 w4:=n3.upd hU4
   have hR4:=hR.extN n4.ext
   have hH4:=bO.held (own:=own1) n4 (Ext.refl _)
   refine Load.here (n4.blk.cells.all' rfl) ?_
   obtain⟨nv4,av4,kv4,A4,K4,hW4⟩:=hR4.work
   refine aA.mk _ (add_con wb B _ st.S nv4 av4 kv4 A4 K4 ⟨nk,nn,nx,u⟩ ⟨⟨nk,nn,nx,np⟩,some u,[],[]⟩ rfl rfl rfl w4 hW4 (by omega) (Nat.le_trans hBw1 n4.ext.sz)) ?_
   rintro v w5 ⟨rfl,own5,nv5,av5,kv5,hW5,hL5,hC5⟩
   have hb5:=(hL5 _ _ _ _ _ _ (by decide) (by decide) (by decide) hH4).blk1
   have hR5:nH w w5 B wb own own5 (st.S++[⟨⟨nk,nn,nx,np⟩,some u,[],[]⟩]) st.at_ st.kd va vk:=⟨⟨_,_,_,_,_,hW5⟩,hL5 _ _ _ _ _ _ (by decide) (by decide) (by decide) hR4.at_,hL5 _ _ _ _ _ _ (by decide) (by decide) (by decide) hR4.kd,hR4.keep.trans hL5.nE,hR4.ch.trans hC5⟩
   obtain⟨S5,hS5⟩:∃S5,S5=st.S++[⟨⟨nk,nn,nx,np⟩,some u,[],[]⟩]:=⟨_,rfl⟩
   have hS5l:S5.length=st.S.length+1:=by rw[hS5];simp
   rw[←hS5]at hR5 hW5
   obtain⟨s,hs⟩:∃s,S5[u]? = some s:=⟨_,List.getElem?_eq_getElem (by omega)⟩
   have hsb:s.attrs.length≤i∧s.kids.length≤i:=by
    have hs2:=hs
    rw[hS5]at hs2
    rcases kV hs2 with ⟨h1,h2⟩|⟨h1,h2⟩
    ·have:=hbd.nd u s (by omega) h2
     rw[List.length_take,Nat.zero_add]at this
     omega
    ·rw[h2];exact⟨Nat.zero_le _,Nat.zero_le _⟩
   have hstp:cK S.length st ⟨nk,nn,nx,np⟩=⟨S5.set u (if nk=3 then mD s st.S.length else oD s st.S.length),st.at_,st.kd⟩:=by
    unfold cK
    simp only
    rw[if_pos (by omega),←hu,←hS5,hs]
   have hB5:B≤w5.heap.size:=Nat.le_trans hB hR5.ch.size
   repeat' (first|refine gA ?_|refine gB ?_|refine gC ?_|refine Cond.yes ?_|refine Cond.no ?_|refine aK.bB (fun _=>?_) (fun g=>absurd (by omega) g)|refine aK.bB (fun g=>absurd g (by omega)) (fun _=>?_)|refine aK.bH (fun _=>?_) (fun g=>absurd g (by omega))|refine aK.bH (fun g=>absurd (by omega) g) (fun _=>?_)|refine aK.bP (fun _=>?_) (fun g=>absurd (by omega) g)|refine aK.bP (fun g=>absurd g (by omega)) (fun _=>?_)|refine aK.bU (fun _=>?_) (fun g=>absurd g (by omega))|refine aK.bU (fun g=>absurd (by omega) g) (fun _=>?_)|refine Cond.dec (fun _=>?_) (fun g=>absurd (by omega) g)|refine Cond.dec (fun g=>absurd g (by omega)) (fun _=>?_)|refine Cond.dH (fun _=>?_) (fun g=>absurd g (by omega))|refine Cond.dH (fun g=>absurd (by omega) g) (fun _=>?_))
   refine Load.here (hb5.one (k:=0) rfl) ?_
   refine Cond.dec (fun g3=>?_) (fun g3=>?_)
   ·obtain⟨L5,hL5e⟩:∃L5,L5=A4++[.slice none 0 0]:=⟨_,rfl⟩
    rw[←hL5e]at hW5
    have hL5l:=hW5.la
    obtain⟨lv,hlv⟩:∃lv,L5[u]? = some lv:=⟨_,List.getElem?_eq_getElem (by omega)⟩
    have hHl:=hW5.ha u lv s hlv hs
    obtain⟨oX,cX,hXe,-,-,-,-,-⟩:=hW5.va.vec.shape
    rw[bK]at hXe
    subst hXe
    refine aQ.mk aB mixed (allT 0 17++[(17,false),(18,false),(19,true),(20,false)]) [20] (by kernel_rfl) (fun w'=>bQ w' wb [nv5,.slice oX L5.length cX,kv5] 159∧Vec w' B 126 1 (.slice oX L5.length cX) (gP L5)) ⟨(hW5.ext (Ext.drew w5)).blk,(hW5.ext (Ext.drew w5)).va.vec⟩ ?_
    have hE5:=Ext.drew w5
    refine Load.mk (.slice oX L5.length cX) (fun w' hS=>hS.1.cells.one (k:=1) rfl) ?_
    refine Ar.aM (u) (by omega) (by omega) ?_
    refine Load.mk (.slice oX L5.length cX) (fun w' hS=>hS.1.cells.one (k:=1) rfl) ?_
    refine Ar.aM (u) (by omega) (by omega) ?_
    obtain⟨aX,haX,-⟩:=hW5.va.vec.sl.el _ _ _ rfl u _ (dB hlv)
    subst haX
    refine Idx.mk aX rfl (by omega) (by omega) ?_
    refine Load.mk lv (fun w' hS=>by
     obtain⟨a',e,hx⟩:=hS.2.sl.el _ _ _ rfl u _ (dB hlv)
     cases e
     exact hx.one (k:=0) rfl) ?_
    refine aG.mk _ _ (pR _ _) ?_
    obtain⟨w6,hw6⟩:∃w',w'=w5.drew.alloc (.cells #[.int .i64 st.S.length] 3):=⟨_,rfl⟩
    have n6:bO w5.drew w5.drew.heap.size [.int .i64 st.S.length] 3 w6:=⟨rfl,hw6⟩
    have hE6:=hE5.trans n6.ext
    have hW6:=hW5.ext hE6
    have hHl6:=hHl.ext hE6
    refine Need.mk (by rw[←hw6];exact⟨hW6.blk,hW6.va.vec⟩) ?_
    refine(show _ from ?_:bD _ _ w6 _) |> fun h=>by rw[hw6]at h;exact h
    refine bD.append jS B (bS s.attrs) (bS [st.S.length]) hHl6.vec (aT n6) (gH _) (by rw[aO,aO,List.length_singleton];omega) (by rw[aO,aO,List.length_singleton];omega) (Nat.le_trans hB5 hE6.sz) fun lv7 w7 hlv7 har7=>?_
    rw[←iQ]at hlv7
    have X7:=bT.app hHl6 har7 (by decide)
    have hn7:=hHl6.yG har7 hlv7
    have hrow7:=X7.held _ _ _ _ _ _ (by omega) hW6.va
    refine Need.mk ⟨X7.blk _ _ hW6.blk,hrow7.vec⟩ ?_
    refine Idx.mk aX rfl (by omega) (by omega) ?_
    obtain⟨ol,cl,hle,-,-,-,-,-⟩:=hlv7.shape
    refine bA.kR (k:=u) [lv7] (by kernel_rfl) hrow7.vec rfl (by rw[bK];omega) rfl (by rw[hle];rfl) (fun y hy=>by rw[List.mem_singleton.1 hy,hle];rfl) fun w8 g cs hU8 hBg hgo hrow8=>?_
    have hW8:=hW6.setA hs X7.w hn7 hU8 hgo hrow8
    have X8:=bT.upd hrow7 hgo hU8 (by decide)
    refine Ar.aM (i+1) (by omega) (by omega) ?_
    refine⟨(i+1,va,vk,gK own5 w6.heap.size (2*u+6)),⟨by simp only;omega,?_⟩,by simp only;omega,rfl,rfl,rfl,rfl,rfl,rfl,trivial⟩
    simp only
    rw[hst1,hstp,if_pos g3]
    exact⟨⟨_,_,_,_,_,hW8⟩,X8.held _ _ _ _ _ _ (by decide) (X7.held _ _ _ _ _ _ (by omega) (hR5.at_.ext hE6)),X8.held _ _ _ _ _ _ (by decide) (X7.held _ _ _ _ _ _ (by omega) (hR5.kd.ext hE6)),((hR5.keep.trans (.ext hE6)).trans (X7.nE (by omega))).trans (X8.nE (by decide)),(((hR5.ch.trans (.aL hE6)).trans (.cO har7 (fun b hb=>(hHl6.vec.ge hb).1)))).trans (.bG hU8 hBg)⟩
   ·obtain⟨L5,hL5e⟩:∃L5,L5=K4++[.slice none 0 0]:=⟨_,rfl⟩
    rw[←hL5e]at hW5
    have hL5l:=hW5.lk
    obtain⟨lv,hlv⟩:∃lv,L5[u]? = some lv:=⟨_,List.getElem?_eq_getElem (by omega)⟩
    have hHl:=hW5.hk u lv s hlv hs
    obtain⟨oX,cX,hXe,-,-,-,-,-⟩:=hW5.vk.vec.shape
    rw[bK]at hXe
    subst hXe
    refine aQ.mk aB mixed (allT 0 17++[(17,false),(18,false),(19,true),(20,false)]) [20] (by kernel_rfl) (fun w'=>bQ w' wb [nv5,av5,.slice oX L5.length cX] 159∧Vec w' B 126 1 (.slice oX L5.length cX) (gP L5)) ⟨(hW5.ext (Ext.drew w5)).blk,(hW5.ext (Ext.drew w5)).vk.vec⟩ ?_
    have hE5:=Ext.drew w5
    refine Load.mk (.slice oX L5.length cX) (fun w' hS=>hS.1.cells.one (k:=2) rfl) ?_
    refine Ar.aM (u) (by omega) (by omega) ?_
    refine Load.mk (.slice oX L5.length cX) (fun w' hS=>hS.1.cells.one (k:=2) rfl) ?_
    refine Ar.aM (u) (by omega) (by omega) ?_
    obtain⟨aX,haX,-⟩:=hW5.vk.vec.sl.el _ _ _ rfl u _ (dB hlv)
    subst haX
    refine Idx.mk aX rfl (by omega) (by omega) ?_
    refine Load.mk lv (fun w' hS=>by
     obtain⟨a',e,hx⟩:=hS.2.sl.el _ _ _ rfl u _ (dB hlv)
     cases e
     exact hx.one (k:=0) rfl) ?_
    refine aG.mk _ _ (pR _ _) ?_
    obtain⟨w6,hw6⟩:∃w',w'=w5.drew.alloc (.cells #[.int .i64 st.S.length] 3):=⟨_,rfl⟩
    have n6:bO w5.drew w5.drew.heap.size [.int .i64 st.S.length] 3 w6:=⟨rfl,hw6⟩
    have hE6:=hE5.trans n6.ext
    have hW6:=hW5.ext hE6
    have hHl6:=hHl.ext hE6
    refine Need.mk (by rw[←hw6];exact⟨hW6.blk,hW6.vk.vec⟩) ?_
    refine(show _ from ?_:bD _ _ w6 _) |> fun h=>by rw[hw6]at h;exact h
    refine bD.append jS B (bS s.kids) (bS [st.S.length]) hHl6.vec (aT n6) (gH _) (by rw[aO,aO,List.length_singleton];omega) (by rw[aO,aO,List.length_singleton];omega) (Nat.le_trans hB5 hE6.sz) fun lv7 w7 hlv7 har7=>?_
    rw[←iQ]at hlv7
    have X7:=bT.app hHl6 har7 (by decide)
    have hn7:=hHl6.yG har7 hlv7
    have hrow7:=X7.held _ _ _ _ _ _ (by omega) hW6.vk
    refine Need.mk ⟨X7.blk _ _ hW6.blk,hrow7.vec⟩ ?_
    refine Idx.mk aX rfl (by omega) (by omega) ?_
    obtain⟨ol,cl,hle,-,-,-,-,-⟩:=hlv7.shape
    refine bA.kR (k:=u) [lv7] (by kernel_rfl) hrow7.vec rfl (by rw[bK];omega) rfl (by rw[hle];rfl) (fun y hy=>by rw[List.mem_singleton.1 hy,hle];rfl) fun w8 g cs hU8 hBg hgo hrow8=>?_
    have hW8:=hW6.setK hs X7.w hn7 hU8 hgo hrow8
    have X8:=bT.upd hrow7 hgo hU8 (by decide)
    refine Ar.aM (i+1) (by omega) (by omega) ?_
    refine⟨(i+1,va,vk,gK own5 w6.heap.size (2*u+7)),⟨by simp only;omega,?_⟩,by simp only;omega,rfl,rfl,rfl,rfl,rfl,rfl,trivial⟩
    simp only
    rw[hst1,hstp,if_neg g3]
    exact⟨⟨_,_,_,_,_,hW8⟩,X8.held _ _ _ _ _ _ (by decide) (X7.held _ _ _ _ _ _ (by omega) (hR5.at_.ext hE6)),X8.held _ _ _ _ _ _ (by decide) (X7.held _ _ _ _ _ _ (by omega) (hR5.kd.ext hE6)),((hR5.keep.trans (.ext hE6)).trans (X7.nE (by omega))).trans (X8.nE (by decide)),(((hR5.ch.trans (.aL hE6)).trans (.cO har7 (fun b hb=>(hHl6.vec.ge hb).1)))).trans (.bG hU8 hBg)⟩
  ·
   have hnp:np=-1:=by omega
   subst hnp
   have n4:bO w1 b (Nd.cells ⟨nk,nn,nx,-1⟩) 50 w3:=n3
   have hR4:=hR.extN n4.ext
   have hH4:=bO.held (own:=own1) n4 (Ext.refl _)
   refine Load.here (n4.blk.cells.all' rfl) ?_
   obtain⟨nv4,av4,kv4,A4,K4,hW4⟩:=hR4.work
   refine aA.mk _ (add_con wb B _ st.S nv4 av4 kv4 A4 K4 ⟨nk,nn,nx,-1⟩ ⟨⟨nk,nn,nx,-1⟩,none,[],[]⟩ rfl rfl rfl w3 hW4 (by omega) (Nat.le_trans hBw1 n4.ext.sz)) ?_
   rintro v w5 ⟨rfl,own5,nv5,av5,kv5,hW5,hL5,hC5⟩
   have hb5:=(hL5 _ _ _ _ _ _ (by decide) (by decide) (by decide) hH4).blk1
   have hR5:nH w w5 B wb own own5 (st.S++[⟨⟨nk,nn,nx,-1⟩,none,[],[]⟩]) st.at_ st.kd va vk:=⟨⟨_,_,_,_,_,hW5⟩,hL5 _ _ _ _ _ _ (by decide) (by decide) (by decide) hR4.at_,hL5 _ _ _ _ _ _ (by decide) (by decide) (by decide) hR4.kd,hR4.keep.trans hL5.nE,hR4.ch.trans hC5⟩
   have hstp:cK S.length st ⟨nk,nn,nx,-1⟩=if nk=3 then⟨st.S++[⟨⟨nk,nn,nx,-1⟩,none,[],[]⟩],st.at_++[st.S.length],st.kd⟩else⟨st.S++[⟨⟨nk,nn,nx,-1⟩,none,[],[]⟩],st.at_,st.kd++[st.S.length]⟩:=by
    unfold cK
    simp only
    rw[if_neg (by omega)]
   have hB5:B≤w5.heap.size:=Nat.le_trans hB hR5.ch.size
   have hat:=hbd.at_
   have hkd:=hbd.kd
   rw[List.length_take,Nat.zero_add]at hat hkd
   repeat' (first|refine gA ?_|refine gB ?_|refine gC ?_|refine Cond.yes ?_|refine Cond.no ?_|refine aK.bB (fun _=>?_) (fun g=>absurd (by omega) g)|refine aK.bB (fun g=>absurd g (by omega)) (fun _=>?_)|refine aK.bH (fun _=>?_) (fun g=>absurd g (by omega))|refine aK.bH (fun g=>absurd (by omega) g) (fun _=>?_)|refine aK.bP (fun _=>?_) (fun g=>absurd (by omega) g)|refine aK.bP (fun g=>absurd g (by omega)) (fun _=>?_)|refine aK.bU (fun _=>?_) (fun g=>absurd g (by omega))|refine aK.bU (fun g=>absurd (by omega) g) (fun _=>?_)|refine Cond.dec (fun _=>?_) (fun g=>absurd (by omega) g)|refine Cond.dec (fun g=>absurd g (by omega)) (fun _=>?_)|refine Cond.dH (fun _=>?_) (fun g=>absurd g (by omega))|refine Cond.dH (fun g=>absurd (by omega) g) (fun _=>?_))
   refine Load.here (hb5.one (k:=0) rfl) ?_
   repeat' (first|refine gA ?_|refine gB ?_|refine gC ?_)
   refine Cond.dec (fun g3=>?_) (fun g3=>?_)
   ·refine aG.mk _ _ (pR _ _) ?_
    obtain⟨w6,hw6⟩:∃w',w'=w5.alloc (.cells #[.int .i64 st.S.length] 3):=⟨_,rfl⟩
    have n6:bO w5 w5.heap.size [.int .i64 st.S.length] 3 w6:=⟨rfl,hw6⟩
    rw[←hw6]
    have hE6:=n6.ext
    have hL6:=hR5.at_.ext hE6
    refine bD.append jS B (bS st.at_) (bS [st.S.length]) hL6.vec (aT n6) (gH _) (by rw[aO,aO,List.length_singleton];omega) (by rw[aO,aO,List.length_singleton];omega) (Nat.le_trans hB5 hE6.sz) fun vn w7 hvn har7=>?_
    rw[←iQ]at hvn
    have X7:=bT.app hL6 har7 (by decide)
    have hn7:=hL6.yG har7 hvn
    refine Ar.aM (i+1) (by omega) (by omega) ?_
    refine⟨(i+1,vn,vk,gK own5 w6.heap.size 2),⟨by simp only;omega,?_⟩,by simp only;omega,rfl,rfl,rfl,rfl,rfl,rfl,trivial⟩
    simp only
    rw[hst1,hstp,if_pos g3]
    have hR6:nH w w6 B wb own own5 (st.S++[⟨⟨nk,nn,nx,-1⟩,none,[],[]⟩]) st.at_ st.kd va vk:=by
     obtain⟨a1,a2,a3,a4,a5,hW⟩:=hR5.work
     exact⟨⟨_,_,_,_,_,hW.ext hE6⟩,hR5.at_.ext hE6,hR5.kd.ext hE6,hR5.keep.trans (.ext hE6),hR5.ch.trans (.aL hE6)⟩
    exact hR6.local (q0:=2) (by decide) X7 (.cO har7 (fun b hb=>(hL6.vec.ge hb).1)) hn7 (X7.held _ _ _ _ _ _ (by decide) hR6.kd)
   ·repeat' (first|refine gA ?_|refine gB ?_|refine gC ?_|refine Cond.yes ?_|refine Cond.no ?_|refine aK.bB (fun _=>?_) (fun g=>absurd (by omega) g)|refine aK.bB (fun g=>absurd g (by omega)) (fun _=>?_)|refine aK.bH (fun _=>?_) (fun g=>absurd g (by omega))|refine aK.bH (fun g=>absurd (by omega) g) (fun _=>?_)|refine aK.bP (fun _=>?_) (fun g=>absurd (by omega) g)|refine aK.bP (fun g=>absurd g (by omega)) (fun _=>?_)|refine aK.bU (fun _=>?_) (fun g=>absurd g (by omega))|refine aK.bU (fun g=>absurd (by omega) g) (fun _=>?_)|refine Cond.dec (fun _=>?_) (fun g=>absurd (by omega) g)|refine Cond.dec (fun g=>absurd g (by omega)) (fun _=>?_)|refine Cond.dH (fun _=>?_) (fun g=>absurd g (by omega))|refine Cond.dH (fun g=>absurd (by omega) g) (fun _=>?_))
    refine aG.mk _ _ (pR _ _) ?_
    obtain⟨w6,hw6⟩:∃w',w'=w5.alloc (.cells #[.int .i64 st.S.length] 3):=⟨_,rfl⟩
    have n6:bO w5 w5.heap.size [.int .i64 st.S.length] 3 w6:=⟨rfl,hw6⟩
    rw[←hw6]
    have hE6:=n6.ext
    have hL6:=hR5.kd.ext hE6
    refine bD.append jS B (bS st.kd) (bS [st.S.length]) hL6.vec (aT n6) (gH _) (by rw[aO,aO,List.length_singleton];omega) (by rw[aO,aO,List.length_singleton];omega) (Nat.le_trans hB5 hE6.sz) fun vn w7 hvn har7=>?_
    rw[←iQ]at hvn
    have X7:=bT.app hL6 har7 (by decide)
    have hn7:=hL6.yG har7 hvn
    refine Ar.aM (i+1) (by omega) (by omega) ?_
    refine⟨(i+1,va,vn,gK own5 w6.heap.size 3),⟨by simp only;omega,?_⟩,by simp only;omega,rfl,rfl,rfl,rfl,rfl,rfl,trivial⟩
    simp only
    rw[hst1,hstp,if_neg g3]
    have hR6:nH w w6 B wb own own5 (st.S++[⟨⟨nk,nn,nx,-1⟩,none,[],[]⟩]) st.at_ st.kd va vk:=by
     obtain⟨a1,a2,a3,a4,a5,hW⟩:=hR5.work
     exact⟨⟨_,_,_,_,_,hW.ext hE6⟩,hR5.at_.ext hE6,hR5.kd.ext hE6,hR5.keep.trans (.ext hE6),hR5.ch.trans (.aL hE6)⟩
    exact hR6.local (q0:=3) (by decide) X7 (.cO har7 (fun b hb=>(hL6.vec.ge hb).1)) (X7.held _ _ _ _ _ _ (by decide) hR6.at_) hn7
 ·have hin:i=l.length:=by omega
  subst hin
  rw[List.take_length]at hR
  exact Exists.intro own1 ⟨va,vk,rfl,hR⟩
structure WorkTo(w w':World)(B wb:Nat)(own own':Nat→Nat)(S':List PN):Prop where
 work:∃nv av kv A K,iB w' B wb own' S' nv av kv A K
 keep:lI own own' w w'
 ch:Ch (fun k=>B≤k) w w'
theorem iB.cell{w:World}{B wb:Nat}{own:Nat→Nat}{S:List PN}{nv av kv:Value}{A K:List Value}(h:iB w B wb own S nv av kv A K){x:Nat}{s:PN}(hx:S[x]? = some s):∃o n c a,nv=.slice o n c∧n=S.length∧o=some a∧Cells w (a.add (x*4)) (mY s).cells:=by
 obtain⟨o,c,he,-,-,-,hel,-⟩:=h.nodes.vec.shape
 simp only[List.length_map]at he
 obtain⟨a,ha,hc⟩:=hel x (mY s).cells (by rw[List.getElem?_map,List.getElem?_map,hx];rfl)
 exact⟨o,_,c,a,he,rfl,ha,hc⟩
set_option maxHeartbeats 3200000 in
theorem qA(wb B Bm q x u on out:Nat)(own:Nat→Nat)(S:List PN)(s:PN)(nv av kv vm:Value)(A K:List Value)(m:List Nat)(w:World)(h:iB w B wb own S nv av kv A K)(hx:S[x]? = some s)(hup:s.up=some u)(hul:u<S.length)
  (hm:Held own T0 w Bm 3 1 q vm (bS m)) (hq:q=2∨q=3) (hmS:∀j∈m,j<S.length) (hml2:m.length≤1000000000) (hbd:∀(i:Nat) (s:PN),S[i]? = some s→s.attrs.length≤1000000000∧s.kids.length≤1000000000) (hoo:on+out≤1) (hB:B≤w.heap.size) (hSl:S.length≤1000000000) :
  bV Tryz.prog 174 #[.pointer (some ⟨wb,0,none⟩),.int .i64 x,.int .i64 on,.int .i64 out,vm] w (fun _ w'=>∃own',WorkTo w w' B wb own own' (eD S x u on out m)):=by
 have hml:maxLen=9223372036854775807:=rfl
 have hxl:=(List.getElem?_eq_some_iff.1 hx).1
 obtain⟨oN,nN,cN,aN,rfl,rfl,haN,hcN⟩:=h.cell hx
 refine enter aB Tryz.func174 (aV rfl) rfl rfl rfl ?_
 refine Load.here (h.blk.cells.one (k:=0) rfl) ?_
 refine Idx.mk aN haN (by omega) (by omega) ?_
 have hcu:(mY s).cells[3]? = some (.int .i64 u):=by unfold mY;rw[hup];rfl
 refine Load.here (hcN.one (k:=3) hcu) ?_
 refine aA.mk _ (sO wb B Bm u q own S _ av kv vm A K m w h hm (by omega) hmS (by omega)) ?_
 rintro v w2 ⟨hWc,hX2,hC2⟩
 have hm2:=hX2.held _ _ _ _ _ _ (by omega) hm
 have hB2:B≤w2.heap.size:=Nat.le_trans hB hC2.size
 obtain⟨su,hsu⟩:∃su,(bE S u m)[u]? = some su:=⟨_,List.getElem?_eq_getElem (by rw[aZ];exact hul)⟩
 have hsub:su.attrs.length≤1000000000∧su.kids.length≤1000000000:=by
  obtain⟨s0,hs0⟩:∃s0,S[u]? = some s0:=⟨_,List.getElem?_eq_getElem hul⟩
  obtain⟨s1,h1,-,h2,h3,-⟩:=gY (u:=u) (l:=m) hs0
  rw[hsu]at h1
  cases h1
  rw[h2,h3]
  exact hbd u s0 hs0
 obtain⟨s1,hs1,hr1,-,-,-⟩:=gY (u:=u) (l:=m) hx
 have hkx:kindOf S x=s.row.kind:=by unfold kindOf;rw[hx]
 refine Load.here (hWc.blk.cells.one (k:=2) rfl) ?_
 refine Load.here (hWc.blk.cells.one (k:=0) rfl) ?_
 obtain⟨o2,n2,c2,a2,he2,hn2,ha2,hc2⟩:=hWc.cell hs1
 rw[aZ]at hn2
 simp only[Value.slice.injEq]at he2
 obtain⟨rfl,rfl,rfl⟩:=he2
 refine Idx.mk a2 ha2 (by omega) (by omega) ?_
 have hck:(mY s1).cells[0]? = some (.int .u8 s.row.kind):=by unfold mY;rw[←hr1];rfl
 refine Load.here (hc2.one (k:=0) hck) ?_
 refine Cond.dec (fun g1=>?_) (fun g1=>?_)
 ·
  refine Load.here (hWc.blk.cells.one (k:=1) rfl) ?_
  obtain⟨oX,cX,hXe,-,-,-,-,-⟩:=hWc.va.vec.shape
  rw[bK]at hXe
  obtain⟨lv,hlv⟩:∃lv,A[u]? = some lv:=⟨_,List.getElem?_eq_getElem (by rw[hWc.la,aZ];exact hul)⟩
  have hHl:=hWc.ha u lv su hlv hsu
  obtain⟨aX,haX,hcX⟩:=hWc.va.vec.sl.el _ _ _ hXe u _ (dB hlv)
  rw[hXe]
  refine Idx.mk aX haX (by omega) (by have:=hWc.la;rw[aZ]at this;omega) ?_
  refine Load.here (hcX.one (k:=0) rfl) ?_
  refine aA.mk _ (find_con lv su.attrs x _ hHl.vec.sl) ?_
  rintro v w3 ⟨hv3,hw3⟩
  have hw3':=hw3.symm
  subst hv3 hw3'
  have hbF:eD S x u on out m=match posOf x su.attrs with
    | none=>bE S u m
    | some k=>(bE S u m).set u { su with attrs:=rH su.attrs (k+on) out m }:=by
   unfold eD
   rw[hsu]
   simp only
   rw[hkx,if_pos g1]
   cases posOf x su.attrs<;>rfl
  cases hpo:posOf x su.attrs with
  | none=>
    rw[hpo]at hbF
    rw[show pJ x su.attrs=-1 from by unfold pJ;rw[hpo]]
    refine Cond.dec (fun g=>absurd g (by decide)) (fun _=>?_)
    rw[hbF]
    exact Exists.intro own ⟨⟨_,_,_,_,_,hWc⟩,hX2.nE (by decide),hC2⟩
  | some k=>
    rw[hpo]at hbF
    rw[show pJ x su.attrs=(k:Int)from by unfold pJ;rw[hpo]]
    have hkl:k<su.attrs.length:=(List.findIdx?_eq_some_iff_getElem.1 hpo).1
    refine Cond.dec (fun _=>?_) (fun g=>absurd (Int.natCast_nonneg k) g)
    refine Idx.mk aX haX (by omega) (by have:=hWc.la;rw[aZ]at this;omega) ?_
    refine Load.here (hcX.one (k:=0) rfl) ?_
    refine Ar.aM (k+on) (by omega) (by omega) ?_
    refine aA.mk _ (put_con2 lv vm su.attrs m (k+on) out w2 hHl.vec.sl hm2.vec.sl (by omega) (by omega) (by omega)) ?_
    rintro v w4 ⟨hv4,hE4⟩
    refine Idx.mk aX haX (by omega) (by have:=hWc.la;rw[aZ]at this;omega) ?_
    have X4:=bT.extN (q0:=2*u+6) (own:=own) hE4
    have hn4:Held (gK own w2.heap.size (2*u+6)) T0 w4 B 3 1 (2*u+6) v (bS (rH su.attrs (k+on) out m)):=⟨hv4.dJ hB2,fun g hg=>⟨by
     have:=(hv4.ge hg).1
     unfold gK
     rw[if_neg (by omega)],trivial⟩⟩
    obtain⟨ol,cl,hle,-,-,-,-,-⟩:=hv4.shape
    have hrow4:=X4.held _ _ _ _ _ _ (by omega) hWc.va
    refine bA.kR (k:=u) [v] (by kernel_rfl) (hXe▸hrow4.vec) haX (by rw[bK];exact(List.getElem?_eq_some_iff.1 hlv).1) rfl (by rw[hle];rfl) (fun y hy=>by rw[List.mem_singleton.1 hy,hle];rfl) fun w8 g cs hU8 hBg hgo hrow8=>?_
    rw[←hXe]at hgo hrow8
    have hW8:=hWc.setA hsu X4.w hn4 hU8 hgo hrow8
    have X8:=bT.upd hrow4 hgo hU8 (by decide)
    rw[hbF]
    exact Exists.intro _ ⟨⟨_,_,_,_,_,hW8⟩,((hX2.nE (by decide)).trans (X4.nE (by omega))).trans (X8.nE (by decide)),(hC2.trans (.aL hE4)).trans (.bG hU8 hBg)⟩
 ·
  obtain⟨oX,cX,hXe,-,-,-,-,-⟩:=hWc.vk.vec.shape
  rw[bK]at hXe
  obtain⟨lv,hlv⟩:∃lv,K[u]? = some lv:=⟨_,List.getElem?_eq_getElem (by rw[hWc.lk,aZ];exact hul)⟩
  have hHl:=hWc.hk u lv su hlv hsu
  obtain⟨aX,haX,hcX⟩:=hWc.vk.vec.sl.el _ _ _ hXe u _ (dB hlv)
  rw[hXe]
  refine Idx.mk aX haX (by omega) (by have:=hWc.lk;rw[aZ]at this;omega) ?_
  refine Load.here (hcX.one (k:=0) rfl) ?_
  refine aA.mk _ (find_con lv su.kids x _ hHl.vec.sl) ?_
  rintro v w3 ⟨hv3,hw3⟩
  have hw3':=hw3.symm
  subst hv3 hw3'
  have hbF:eD S x u on out m=match posOf x su.kids with
    | none=>bE S u m
    | some k=>(bE S u m).set u { su with kids:=rH su.kids (k+on) out m }:=by
   unfold eD
   rw[hsu]
   simp only
   rw[hkx,if_neg g1]
   cases posOf x su.kids<;>rfl
  cases hpo:posOf x su.kids with
  | none=>
    rw[hpo]at hbF
    rw[show pJ x su.kids=-1 from by unfold pJ;rw[hpo]]
    refine Cond.dec (fun g=>absurd g (by decide)) (fun _=>?_)
    rw[hbF]
    exact Exists.intro own ⟨⟨_,_,_,_,_,hWc⟩,hX2.nE (by decide),hC2⟩
  | some k=>
    rw[hpo]at hbF
    rw[show pJ x su.kids=(k:Int)from by unfold pJ;rw[hpo]]
    have hkl:k<su.kids.length:=(List.findIdx?_eq_some_iff_getElem.1 hpo).1
    refine Cond.dec (fun _=>?_) (fun g=>absurd (Int.natCast_nonneg k) g)
    refine Idx.mk aX haX (by omega) (by have:=hWc.lk;rw[aZ]at this;omega) ?_
    refine Load.here (hcX.one (k:=0) rfl) ?_
    refine Ar.aM (k+on) (by omega) (by omega) ?_
    refine aA.mk _ (put_con2 lv vm su.kids m (k+on) out w2 hHl.vec.sl hm2.vec.sl (by omega) (by omega) (by omega)) ?_
    rintro v w4 ⟨hv4,hE4⟩
    refine Idx.mk aX haX (by omega) (by have:=hWc.lk;rw[aZ]at this;omega) ?_
    have X4:=bT.extN (q0:=2*u+7) (own:=own) hE4
    have hn4:Held (gK own w2.heap.size (2*u+7)) T0 w4 B 3 1 (2*u+7) v (bS (rH su.kids (k+on) out m)):=⟨hv4.dJ hB2,fun g hg=>⟨by
     have:=(hv4.ge hg).1
     unfold gK
     rw[if_neg (by omega)],trivial⟩⟩
    obtain⟨ol,cl,hle,-,-,-,-,-⟩:=hv4.shape
    have hrow4:=X4.held _ _ _ _ _ _ (by omega) hWc.vk
    refine bA.kR (k:=u) [v] (by kernel_rfl) (hXe▸hrow4.vec) haX (by rw[bK];exact(List.getElem?_eq_some_iff.1 hlv).1) rfl (by rw[hle];rfl) (fun y hy=>by rw[List.mem_singleton.1 hy,hle];rfl) fun w8 g cs hU8 hBg hgo hrow8=>?_
    rw[←hXe]at hgo hrow8
    have hW8:=hWc.setK hsu X4.w hn4 hU8 hgo hrow8
    have X8:=bT.upd hrow4 hgo hU8 (by decide)
    rw[hbF]
    exact Exists.intro _ ⟨⟨_,_,_,_,_,hW8⟩,((hX2.nE (by decide)).trans (X4.nE (by omega))).trans (X8.nE (by decide)),(hC2.trans (.aL hE4)).trans (.bG hU8 hBg)⟩
theorem run_build50p(s:ByteArray)(p:Int)(w:World):(Instr.build 50 #[(0,.int .u8 4),(2,.string s),(3,.int .i64 p)]).run Tryz.prog w=.ok (.agg #[.int .u8 4,.string ⟨#[]⟩,.string s,.int .i64 p]) w:=by kernel_rfl
theorem Held.retag{own:Nat→Nat}{w:World}{D e sz q:Nat}{u:Value}{us:List (List Value)}(h:Held own T0 w D e sz q u us)(q':Nat) :
  bT q own (fun b=>if u.ownBlock=some b then q' else own b) w w∧Held (fun b=>if u.ownBlock=some b then q' else own b) T0 w D e sz q' u us:=by
 refine⟨⟨fun D e sz q2 v vs hq hv=>⟨hv.vec,fun g hg=>⟨?_,trivial⟩⟩,fun _ _ h=>h⟩,⟨h.vec,fun g hg=>⟨if_pos hg,trivial⟩⟩⟩
 have h1:=(hv.tag g hg).1
 show(if u.ownBlock=some g then q' else own g)=q2
 rw[if_neg (fun e=>by have:=(h.tag g e).1;omega)]
 exact h1
set_option maxHeartbeats 12800000 in
theorem do2_con(wb B Dn x:Nat)(own:Nat→Nat)(S:List PN)(nv av kv:Value)(A K:List Value)(r:aR)(p:Pt)(w:World)(h:iB w B wb own S nv av kv A K)(hSI:SI S [])(hx:x<S.length)(hp:PartOk S p x)
  (ek:r.kind=p.kind) (et:r.target=x) (et2:p.target=x) (ex:r.text=p.text) (hN:Held own T0 w Dn 50 4 4 r.nodes (p.nodes.map Nd.cells)) (hwf:∀n∈p.nodes,n.Wf) (hpm:∀n∈p.nodes,-1≤n.parent) (hk10:1≤p.kind∧p.kind≤10)
  (hSl:S.length≤100000000) (hln:p.nodes.length≤100000000) (hB:B≤w.heap.size) :
  bV Tryz.prog 118 #[.pointer (some ⟨wb,0,none⟩),.agg r.cells.toArray] w (fun _ w'=>∃own',WorkTo w w' B wb own own' (tQ S p x)):=by
 have hml:maxLen=9223372036854775807:=rfl
 obtain⟨pk,pt,text,pn⟩:=p
 obtain⟨kind,target,rx,rn⟩:=r
 simp only at ek et et2 ex hN hwf hpm hk10 hln
 subst ek et et2 ex
 obtain⟨oN,cN,hNe,-,-,-,-,-⟩:=hN.vec.shape
 rw[List.length_map]at hNe
 subst hNe
 refine enter aB Tryz.func118 (aV rfl) rfl rfl rfl ?_
 refine aG.box [.int .u8 kind,.int .i64 x,.string rx,.slice oN pn.length cN] rfl fun b3 w1 n1=>?_
 have hX1:=bT.extN (q0:=4) (own:=own) n1.ext
 have hb1H:=bO.held (own:=own) n1 (Ext.refl _)
 have hN1:=lI.extN n1.ext _ _ _ _ _ (by decide) hN
 have hB1:B≤w1.heap.size:=Nat.le_trans hB n1.ext.sz
 refine Load.here (n1.blk.cells.one (k:=3) rfl) ?_
 refine aA.mk _ (row_con wb B (gK own w.heap.size 4) S nv av kv _ A K pn w1 (h.keep hX1 (by decide)) (by omega) hB1 (fun w' own' hK hC=>⟨(hK _ _ _ _ _ (by decide) hN1).vec.sl,hwf,by omega⟩) (by omega) hp.par hpm) ?_
 rintro v w2 ⟨own2,va,vk,rfl,hR⟩
 obtain⟨st,hst⟩:∃st,dI S pn=st:=⟨_,rfl⟩
 have hA:=apartP_SI hSI hp.rows hp.par
 have hok:=apartP_ok hSI.named hp.par
 have hl:=mM S pn
 obtain⟨s,hs⟩:∃s,S[x]? = some s:=⟨_,List.getElem?_eq_getElem hx⟩
 have hs1:(dI S pn).S[x]? = some s:=by rw[sJ _ hx];exact hs
 have hbdA:=apartP_bd S pn
 simp only at hA hok hl
 rw[hst]at hR hA hok hl hs1 hbdA
 have hat:=hok.at_
 have hkd:=hok.kd
 have hatl:=hbdA.at_
 have hkdl:=hbdA.kd
 have hx1:x<st.S.length:=by omega
 have hbd:∀(i:Nat) (s:PN),st.S[i]? = some s→s.attrs.length≤1000000000∧s.kids.length≤1000000000:=fun i s hi=>by have:=hA.len hi;omega
 obtain⟨nv,av,kv,A,K,hW2⟩:=hR.work
 have hK2:lI own own2 w w2:=(lI.extN n1.ext).trans hR.keep
 have hC2:Ch (fun k=>B≤k) w w2:=(Ch.aL n1.ext).trans hR.ch
 have hb2H:=hR.keep _ _ _ _ _ (by decide) hb1H
 have hb2:=hb2H.blk1
 refine Load.here (hb2.one (k:=1) rfl) ?_
 refine Load.here (hb2.one (k:=0) rfl) ?_
 have hcases:kind=1∨kind=7∨kind=6∨kind=2∨kind=3∨kind=4∨kind=5∨kind=8∨kind=9∨kind=10:=by omega
 rcases hcases with rfl|rfl|rfl|rfl|rfl|rfl|rfl|rfl|rfl|rfl
 all_goals repeat' (first|refine gA ?_|refine gB ?_|refine gC ?_|refine Cond.yes ?_|refine Cond.no ?_|refine aK.bB (fun _=>?_) (fun g=>absurd (by omega) g)|refine aK.bB (fun g=>absurd g (by omega)) (fun _=>?_)|refine aK.bH (fun _=>?_) (fun g=>absurd g (by omega))|refine aK.bH (fun g=>absurd (by omega) g) (fun _=>?_)|refine aK.bP (fun _=>?_) (fun g=>absurd (by omega) g)|refine aK.bP (fun g=>absurd g (by omega)) (fun _=>?_)|refine aK.bU (fun _=>?_) (fun g=>absurd g (by omega))|refine aK.bU (fun g=>absurd (by omega) g) (fun _=>?_)|refine Cond.dec (fun _=>?_) (fun g=>absurd (by omega) g)|refine Cond.dec (fun g=>absurd g (by omega)) (fun _=>?_)|refine Cond.dH (fun _=>?_) (fun g=>absurd g (by omega))|refine Cond.dH (fun g=>absurd (by omega) g) (fun _=>?_))
 ·
  refine aA.mk _ (sO wb B B x 2 own2 st.S nv av kv va A K st.at_ w2 hW2 hR.at_ (by decide) (fun j hj=>(hat j hj).2) (by omega)) ?_
  rintro v w3 ⟨hW3,hX3,hC3⟩
  refine aA.mk _ (sO wb B B x 3 own2 _ nv av kv vk A K st.kd w3 hW3 (hX3.held _ _ _ _ _ _ (by decide) hR.kd) (by decide) (fun j hj=>by rw[aZ];exact(hkd j hj).2) (by omega)) ?_
  rintro v w4 ⟨hW4,hX4,hC4⟩
  have hat4:=hX4.held _ _ _ _ _ _ (by decide) (hX3.held _ _ _ _ _ _ (by decide) hR.at_)
  have hkd4:=hX4.held _ _ _ _ _ _ (by decide) (hX3.held _ _ _ _ _ _ (by decide) hR.kd)
  have hK4:=(hK2.trans (hX3.nE (by decide))).trans (hX4.nE (by decide))
  have hC24:=(hC2.trans hC3).trans hC4
  have hB4:B≤w4.heap.size:=Nat.le_trans hB hC24.size
  obtain⟨s2,hs2,-,-,-,-⟩:=gY (u:=x) (l:=st.at_) hs1
  obtain⟨s3,hs3,-,-,-,-⟩:=gY (u:=x) (l:=st.kd) hs2
  have hs3b:s3.attrs.length≤1000000000∧s3.kids.length≤1000000000:=by
   have:=((hA.take hx1 st.at_).take (by rw[aZ];exact hx1) st.kd).len hs3
   rw[aZ,aZ]at this
   omega
  obtain⟨T,hT⟩:∃T,T=bE (bE st.S x st.at_) x st.kd:=⟨_,rfl⟩
  have hTl:T.length=st.S.length:=by rw[hT,aZ,aZ]
  rw[←hT]at hW4 hs3
  have hLp:A.length=T.length:=by rw[hW4.la]
  obtain⟨lvp,hlvp⟩:∃lv,A[x]? = some lv:=⟨_,List.getElem?_eq_getElem (by omega)⟩
  have hHlp:Held _ T0 w4 B 3 1 (2*x+6) lvp (bS s3.attrs):=hW4.ha x lvp _ hlvp hs3
  obtain⟨oXp,cXp,hXep,-,-,-,-,-⟩:=hW4.va.vec.shape
  rw[bK]at hXep
  subst hXep
  refine aQ.mk aB mixed (allT 0 13++[(13,false),(14,true),(15,false)]) [15] (by kernel_rfl) (fun w'=>bQ w' wb [nv,.slice oXp A.length cXp,kv] 159∧Vec w' B 126 1 (.slice oXp A.length cXp) (gP A)) ⟨(hW4.ext (Ext.drew w4)).blk,(hW4.ext (Ext.drew w4)).va.vec⟩ ?_
  have hEp:=Ext.drew w4
  have hWpd:=hW4.ext hEp
  have hXpd:=hHlp.ext hEp
  obtain⟨aXp,haXp,-⟩:=hWpd.va.vec.sl.el _ _ _ rfl x _ (dB hlvp)
  subst haXp
  refine Load.mk (.slice (some aXp) A.length cXp) (fun w' hS=>hS.1.cells.one (k:=1) rfl) ?_
  refine Load.mk (.slice (some aXp) A.length cXp) (fun w' hS=>hS.1.cells.one (k:=1) rfl) ?_
  refine Idx.mk aXp rfl (by omega) (by omega) ?_
  refine Load.mk lvp (fun w' hS=>by
   obtain⟨a',e,hx⟩:=hS.2.sl.el _ _ _ rfl x _ (dB hlvp)
   cases e
   exact hx.one (k:=0) rfl) ?_
  refine bD.append jS B (bS s3.attrs) (bS st.at_) hXpd.vec (hat4.ext hEp).vec.sl (gH _) (by rw[aO,aO];omega) (by rw[aO,aO];omega) (Nat.le_trans hB4 hEp.sz) fun lnp wp7 hlnp harp=>?_
  rw[←iQ]at hlnp
  have Xp7:=bT.app hXpd harp (by decide)
  have hnp7:=hXpd.yG harp hlnp
  have hrowp:=Xp7.held _ _ _ _ _ _ (by omega) hWpd.va
  refine Need.mk ⟨Xp7.blk _ _ hWpd.blk,hrowp.vec⟩ ?_
  refine Idx.mk aXp rfl (by omega) (by omega) ?_
  obtain⟨olp,clp,hlep,-,-,-,-,-⟩:=hlnp.shape
  refine bA.kR (k:=x) [lnp] (by kernel_rfl) hrowp.vec rfl (by rw[bK];omega) rfl (by rw[hlep];rfl) (fun y hy=>by rw[List.mem_singleton.1 hy,hlep];rfl) fun wp8 gp csp hUp8 hBgp hgop hrowp8=>?_
  have hWp8:=hWpd.setA hs3 Xp7.w hnp7 hUp8 hgop hrowp8
  have Xp8:=bT.upd hrowp hgop hUp8 (by decide)
  have hKp:=((hK4.trans (.ext hEp)).trans (Xp7.nE (by omega))).trans (Xp8.nE (by decide))
  have hCp:=(((hC24.trans (.aL hEp)).trans (.cO harp (fun b hb=>(hXpd.vec.ge hb).1)))).trans (.bG hUp8 hBgp)
  have hKpp:=((((hX3.nE (by decide)).trans (hX4.nE (by decide))).trans (.ext hEp)).trans (Xp7.nE (by omega))).trans (Xp8.nE (by decide))
  have hB6:B≤wp8.heap.size:=Nat.le_trans hB hCp.size
  have hkdp:=Xp8.held _ _ _ _ _ _ (by decide) (Xp7.held _ _ _ _ _ _ (by omega) (hkd4.ext hEp))
  have hb6H:=hKpp _ _ _ _ _ (by decide) hb2H
  refine Load.here ((Held.blk1 hb6H).one (k:=0) rfl) ?_
  repeat' (first|refine gA ?_|refine gB ?_|refine gC ?_|refine Cond.yes ?_|refine Cond.no ?_|refine aK.bB (fun _=>?_) (fun g=>absurd (by omega) g)|refine aK.bB (fun g=>absurd g (by omega)) (fun _=>?_)|refine aK.bH (fun _=>?_) (fun g=>absurd g (by omega))|refine aK.bH (fun g=>absurd (by omega) g) (fun _=>?_)|refine aK.bP (fun _=>?_) (fun g=>absurd (by omega) g)|refine aK.bP (fun g=>absurd g (by omega)) (fun _=>?_)|refine aK.bU (fun _=>?_) (fun g=>absurd g (by omega))|refine aK.bU (fun g=>absurd (by omega) g) (fun _=>?_)|refine Cond.dec (fun _=>?_) (fun g=>absurd (by omega) g)|refine Cond.dec (fun g=>absurd g (by omega)) (fun _=>?_)|refine Cond.dH (fun _=>?_) (fun g=>absurd g (by omega))|refine Cond.dH (fun g=>absurd (by omega) g) (fun _=>?_))
  have hs4:(T.set x { s3 with attrs:=s3.attrs++st.at_ })[x]? = some { s3 with attrs:=s3.attrs++st.at_ }:=by rw[List.getElem?_set_self (by omega)]
  have hLq:K.length=T.length:=by rw[hWp8.lk,List.length_set]
  obtain⟨lvq,hlvq⟩:∃lv,K[x]? = some lv:=⟨_,List.getElem?_eq_getElem (by omega)⟩
  have hHlq:Held _ T0 wp8 B 3 1 (2*x+7) lvq (bS s3.kids):=hWp8.hk x lvq { s3 with attrs:=s3.attrs++st.at_ } hlvq hs4
  obtain⟨oXq,cXq,hXeq,-,-,-,-,-⟩:=hWp8.vk.vec.shape
  rw[bK]at hXeq
  subst hXeq
  refine aQ.mk aB mixed (allT 0 13++[(13,false),(14,true),(15,false)]) [15] (by kernel_rfl) (fun w'=>bQ w' wb [nv,.slice (some aXp) A.length cXp,.slice oXq K.length cXq] 159∧Vec w' B 126 1 (.slice oXq K.length cXq) (gP K)) ⟨(hWp8.ext (Ext.drew wp8)).blk,(hWp8.ext (Ext.drew wp8)).vk.vec⟩ ?_
  have hEq:=Ext.drew wp8
  have hWqd:=hWp8.ext hEq
  have hXqd:=hHlq.ext hEq
  obtain⟨aXq,haXq,-⟩:=hWqd.vk.vec.sl.el _ _ _ rfl x _ (dB hlvq)
  subst haXq
  refine Load.mk (.slice (some aXq) K.length cXq) (fun w' hS=>hS.1.cells.one (k:=2) rfl) ?_
  refine Load.mk (.slice (some aXq) K.length cXq) (fun w' hS=>hS.1.cells.one (k:=2) rfl) ?_
  refine Idx.mk aXq rfl (by omega) (by omega) ?_
  refine Load.mk lvq (fun w' hS=>by
   obtain⟨a',e,hx⟩:=hS.2.sl.el _ _ _ rfl x _ (dB hlvq)
   cases e
   exact hx.one (k:=0) rfl) ?_
  refine bD.append jS B (bS s3.kids) (bS st.kd) hXqd.vec (hkdp.ext hEq).vec.sl (gH _) (by rw[aO,aO];omega) (by rw[aO,aO];omega) (Nat.le_trans hB6 hEq.sz) fun lnq wq7 hlnq harq=>?_
  rw[←iQ]at hlnq
  have Xq7:=bT.app hXqd harq (by decide)
  have hnq7:=hXqd.yG harq hlnq
  have hrowq:=Xq7.held _ _ _ _ _ _ (by omega) hWqd.vk
  refine Need.mk ⟨Xq7.blk _ _ hWqd.blk,hrowq.vec⟩ ?_
  refine Idx.mk aXq rfl (by omega) (by omega) ?_
  obtain⟨olq,clq,hleq,-,-,-,-,-⟩:=hlnq.shape
  refine bA.kR (k:=x) [lnq] (by kernel_rfl) hrowq.vec rfl (by rw[bK];omega) rfl (by rw[hleq];rfl) (fun y hy=>by rw[List.mem_singleton.1 hy,hleq];rfl) fun wq8 gq csq hUq8 hBgq hgoq hrowq8=>?_
  have hWq8:=hWqd.setK hs4 Xq7.w hnq7 hUq8 hgoq hrowq8
  have Xq8:=bT.upd hrowq hgoq hUq8 (by decide)
  have hKq:=((hKp.trans (.ext hEq)).trans (Xq7.nE (by omega))).trans (Xq8.nE (by decide))
  have hCq:=(((hCp.trans (.aL hEq)).trans (.cO harq (fun b hb=>(hXqd.vec.ge hb).1)))).trans (.bG hUq8 hBgq)
  have hdo:tQ S ⟨1,(x:Int),rx,pn⟩ x=T.set x (uZ s3 st.at_ st.kd):=by
   unfold tQ
   simp only
   rw[hst]
   simp[dR,←hT,hs3]
  rw[hdo]
  rw[List.set_set]at hWq8
  exact Exists.intro _ ⟨⟨_,_,_,_,_,hWq8⟩,hKq,hCq⟩
 ·
  refine aA.mk _ (sO wb B B x 2 own2 st.S nv av kv va A K st.at_ w2 hW2 hR.at_ (by decide) (fun j hj=>(hat j hj).2) (by omega)) ?_
  rintro v w3 ⟨hW3,hX3,hC3⟩
  refine aA.mk _ (sO wb B B x 3 own2 _ nv av kv vk A K st.kd w3 hW3 (hX3.held _ _ _ _ _ _ (by decide) hR.kd) (by decide) (fun j hj=>by rw[aZ];exact(hkd j hj).2) (by omega)) ?_
  rintro v w4 ⟨hW4,hX4,hC4⟩
  have hat4:=hX4.held _ _ _ _ _ _ (by decide) (hX3.held _ _ _ _ _ _ (by decide) hR.at_)
  have hkd4:=hX4.held _ _ _ _ _ _ (by decide) (hX3.held _ _ _ _ _ _ (by decide) hR.kd)
  have hK4:=(hK2.trans (hX3.nE (by decide))).trans (hX4.nE (by decide))
  have hC24:=(hC2.trans hC3).trans hC4
  have hB4:B≤w4.heap.size:=Nat.le_trans hB hC24.size
  obtain⟨s2,hs2,-,-,-,-⟩:=gY (u:=x) (l:=st.at_) hs1
  obtain⟨s3,hs3,-,-,-,-⟩:=gY (u:=x) (l:=st.kd) hs2
  have hs3b:s3.attrs.length≤1000000000∧s3.kids.length≤1000000000:=by
   have:=((hA.take hx1 st.at_).take (by rw[aZ];exact hx1) st.kd).len hs3
   rw[aZ,aZ]at this
   omega
  obtain⟨T,hT⟩:∃T,T=bE (bE st.S x st.at_) x st.kd:=⟨_,rfl⟩
  have hTl:T.length=st.S.length:=by rw[hT,aZ,aZ]
  rw[←hT]at hW4 hs3
  have hLp:A.length=T.length:=by rw[hW4.la]
  obtain⟨lvp,hlvp⟩:∃lv,A[x]? = some lv:=⟨_,List.getElem?_eq_getElem (by omega)⟩
  have hHlp:Held _ T0 w4 B 3 1 (2*x+6) lvp (bS s3.attrs):=hW4.ha x lvp _ hlvp hs3
  obtain⟨oXp,cXp,hXep,-,-,-,-,-⟩:=hW4.va.vec.shape
  rw[bK]at hXep
  subst hXep
  refine aQ.mk aB mixed (allT 0 13++[(13,false),(14,true),(15,false)]) [15] (by kernel_rfl) (fun w'=>bQ w' wb [nv,.slice oXp A.length cXp,kv] 159∧Vec w' B 126 1 (.slice oXp A.length cXp) (gP A)) ⟨(hW4.ext (Ext.drew w4)).blk,(hW4.ext (Ext.drew w4)).va.vec⟩ ?_
  have hEp:=Ext.drew w4
  have hWpd:=hW4.ext hEp
  have hXpd:=hHlp.ext hEp
  obtain⟨aXp,haXp,-⟩:=hWpd.va.vec.sl.el _ _ _ rfl x _ (dB hlvp)
  subst haXp
  refine Load.mk (.slice (some aXp) A.length cXp) (fun w' hS=>hS.1.cells.one (k:=1) rfl) ?_
  refine Load.mk (.slice (some aXp) A.length cXp) (fun w' hS=>hS.1.cells.one (k:=1) rfl) ?_
  refine Idx.mk aXp rfl (by omega) (by omega) ?_
  refine Load.mk lvp (fun w' hS=>by
   obtain⟨a',e,hx⟩:=hS.2.sl.el _ _ _ rfl x _ (dB hlvp)
   cases e
   exact hx.one (k:=0) rfl) ?_
  refine bD.append jS B (bS s3.attrs) (bS st.at_) hXpd.vec (hat4.ext hEp).vec.sl (gH _) (by rw[aO,aO];omega) (by rw[aO,aO];omega) (Nat.le_trans hB4 hEp.sz) fun lnp wp7 hlnp harp=>?_
  rw[←iQ]at hlnp
  have Xp7:=bT.app hXpd harp (by decide)
  have hnp7:=hXpd.yG harp hlnp
  have hrowp:=Xp7.held _ _ _ _ _ _ (by omega) hWpd.va
  refine Need.mk ⟨Xp7.blk _ _ hWpd.blk,hrowp.vec⟩ ?_
  refine Idx.mk aXp rfl (by omega) (by omega) ?_
  obtain⟨olp,clp,hlep,-,-,-,-,-⟩:=hlnp.shape
  refine bA.kR (k:=x) [lnp] (by kernel_rfl) hrowp.vec rfl (by rw[bK];omega) rfl (by rw[hlep];rfl) (fun y hy=>by rw[List.mem_singleton.1 hy,hlep];rfl) fun wp8 gp csp hUp8 hBgp hgop hrowp8=>?_
  have hWp8:=hWpd.setA hs3 Xp7.w hnp7 hUp8 hgop hrowp8
  have Xp8:=bT.upd hrowp hgop hUp8 (by decide)
  have hKp:=((hK4.trans (.ext hEp)).trans (Xp7.nE (by omega))).trans (Xp8.nE (by decide))
  have hCp:=(((hC24.trans (.aL hEp)).trans (.cO harp (fun b hb=>(hXpd.vec.ge hb).1)))).trans (.bG hUp8 hBgp)
  have hKpp:=((((hX3.nE (by decide)).trans (hX4.nE (by decide))).trans (.ext hEp)).trans (Xp7.nE (by omega))).trans (Xp8.nE (by decide))
  have hB6:B≤wp8.heap.size:=Nat.le_trans hB hCp.size
  have hkdp:=Xp8.held _ _ _ _ _ _ (by decide) (Xp7.held _ _ _ _ _ _ (by omega) (hkd4.ext hEp))
  have hb6H:=hKpp _ _ _ _ _ (by decide) hb2H
  refine Load.here ((Held.blk1 hb6H).one (k:=0) rfl) ?_
  repeat' (first|refine gA ?_|refine gB ?_|refine gC ?_|refine Cond.yes ?_|refine Cond.no ?_|refine aK.bB (fun _=>?_) (fun g=>absurd (by omega) g)|refine aK.bB (fun g=>absurd g (by omega)) (fun _=>?_)|refine aK.bH (fun _=>?_) (fun g=>absurd g (by omega))|refine aK.bH (fun g=>absurd (by omega) g) (fun _=>?_)|refine aK.bP (fun _=>?_) (fun g=>absurd (by omega) g)|refine aK.bP (fun g=>absurd g (by omega)) (fun _=>?_)|refine aK.bU (fun _=>?_) (fun g=>absurd g (by omega))|refine aK.bU (fun g=>absurd (by omega) g) (fun _=>?_)|refine Cond.dec (fun _=>?_) (fun g=>absurd (by omega) g)|refine Cond.dec (fun g=>absurd g (by omega)) (fun _=>?_)|refine Cond.dH (fun _=>?_) (fun g=>absurd g (by omega))|refine Cond.dH (fun g=>absurd (by omega) g) (fun _=>?_))
  have hs4:(T.set x { s3 with attrs:=s3.attrs++st.at_ })[x]? = some { s3 with attrs:=s3.attrs++st.at_ }:=by rw[List.getElem?_set_self (by omega)]
  have hLq:K.length=T.length:=by rw[hWp8.lk,List.length_set]
  obtain⟨lvq,hlvq⟩:∃lv,K[x]? = some lv:=⟨_,List.getElem?_eq_getElem (by omega)⟩
  have hHlq:Held _ T0 wp8 B 3 1 (2*x+7) lvq (bS s3.kids):=hWp8.hk x lvq { s3 with attrs:=s3.attrs++st.at_ } hlvq hs4
  obtain⟨oXq,cXq,hXeq,-,-,-,-,-⟩:=hWp8.vk.vec.shape
  rw[bK]at hXeq
  subst hXeq
  refine aQ.mk aB mixed (allT 0 13++[(13,false),(14,true),(15,false)]) [15] (by kernel_rfl) (fun w'=>bQ w' wb [nv,.slice (some aXp) A.length cXp,.slice oXq K.length cXq] 159∧Vec w' B 126 1 (.slice oXq K.length cXq) (gP K)) ⟨(hWp8.ext (Ext.drew wp8)).blk,(hWp8.ext (Ext.drew wp8)).vk.vec⟩ ?_
  have hEq:=Ext.drew wp8
  have hWqd:=hWp8.ext hEq
  have hXqd:=hHlq.ext hEq
  obtain⟨aXq,haXq,-⟩:=hWqd.vk.vec.sl.el _ _ _ rfl x _ (dB hlvq)
  subst haXq
  refine Load.mk (.slice (some aXq) K.length cXq) (fun w' hS=>hS.1.cells.one (k:=2) rfl) ?_
  refine Load.mk (.slice (some aXq) K.length cXq) (fun w' hS=>hS.1.cells.one (k:=2) rfl) ?_
  refine Idx.mk aXq rfl (by omega) (by omega) ?_
  refine Load.mk lvq (fun w' hS=>by
   obtain⟨a',e,hx⟩:=hS.2.sl.el _ _ _ rfl x _ (dB hlvq)
   cases e
   exact hx.one (k:=0) rfl) ?_
  refine bD.append jS B (bS s3.kids) (bS st.kd) hXqd.vec (hkdp.ext hEq).vec.sl (gH _) (by rw[aO,aO];omega) (by rw[aO,aO];omega) (Nat.le_trans hB6 hEq.sz) fun lnq wq7 hlnq harq=>?_
  rw[←iQ]at hlnq
  have Xq7:=bT.app hXqd harq (by decide)
  have hnq7:=hXqd.yG harq hlnq
  have hrowq:=Xq7.held _ _ _ _ _ _ (by omega) hWqd.vk
  refine Need.mk ⟨Xq7.blk _ _ hWqd.blk,hrowq.vec⟩ ?_
  refine Idx.mk aXq rfl (by omega) (by omega) ?_
  obtain⟨olq,clq,hleq,-,-,-,-,-⟩:=hlnq.shape
  refine bA.kR (k:=x) [lnq] (by kernel_rfl) hrowq.vec rfl (by rw[bK];omega) rfl (by rw[hleq];rfl) (fun y hy=>by rw[List.mem_singleton.1 hy,hleq];rfl) fun wq8 gq csq hUq8 hBgq hgoq hrowq8=>?_
  have hWq8:=hWqd.setK hs4 Xq7.w hnq7 hUq8 hgoq hrowq8
  have Xq8:=bT.upd hrowq hgoq hUq8 (by decide)
  have hKq:=((hKp.trans (.ext hEq)).trans (Xq7.nE (by omega))).trans (Xq8.nE (by decide))
  have hCq:=(((hCp.trans (.aL hEq)).trans (.cO harq (fun b hb=>(hXqd.vec.ge hb).1)))).trans (.bG hUq8 hBgq)
  have hdo:tQ S ⟨7,(x:Int),rx,pn⟩ x=T.set x (uZ s3 st.at_ st.kd):=by
   unfold tQ
   simp only
   rw[hst]
   simp[dR,←hT,hs3]
  rw[hdo]
  rw[List.set_set]at hWq8
  exact Exists.intro _ ⟨⟨_,_,_,_,_,hWq8⟩,hKq,hCq⟩
 ·
  refine aA.mk _ (sO wb B B x 2 own2 st.S nv av kv va A K st.at_ w2 hW2 hR.at_ (by decide) (fun j hj=>(hat j hj).2) (by omega)) ?_
  rintro v w3 ⟨hW3,hX3,hC3⟩
  refine aA.mk _ (sO wb B B x 3 own2 _ nv av kv vk A K st.kd w3 hW3 (hX3.held _ _ _ _ _ _ (by decide) hR.kd) (by decide) (fun j hj=>by rw[aZ];exact(hkd j hj).2) (by omega)) ?_
  rintro v w4 ⟨hW4,hX4,hC4⟩
  have hat4:=hX4.held _ _ _ _ _ _ (by decide) (hX3.held _ _ _ _ _ _ (by decide) hR.at_)
  have hkd4:=hX4.held _ _ _ _ _ _ (by decide) (hX3.held _ _ _ _ _ _ (by decide) hR.kd)
  have hK4:=(hK2.trans (hX3.nE (by decide))).trans (hX4.nE (by decide))
  have hC24:=(hC2.trans hC3).trans hC4
  have hB4:B≤w4.heap.size:=Nat.le_trans hB hC24.size
  obtain⟨s2,hs2,-,-,-,-⟩:=gY (u:=x) (l:=st.at_) hs1
  obtain⟨s3,hs3,-,-,-,-⟩:=gY (u:=x) (l:=st.kd) hs2
  have hs3b:s3.attrs.length≤1000000000∧s3.kids.length≤1000000000:=by
   have:=((hA.take hx1 st.at_).take (by rw[aZ];exact hx1) st.kd).len hs3
   rw[aZ,aZ]at this
   omega
  obtain⟨T,hT⟩:∃T,T=bE (bE st.S x st.at_) x st.kd:=⟨_,rfl⟩
  have hTl:T.length=st.S.length:=by rw[hT,aZ,aZ]
  rw[←hT]at hW4 hs3
  have hLp:A.length=T.length:=by rw[hW4.la]
  obtain⟨lvp,hlvp⟩:∃lv,A[x]? = some lv:=⟨_,List.getElem?_eq_getElem (by omega)⟩
  have hHlp:Held _ T0 w4 B 3 1 (2*x+6) lvp (bS s3.attrs):=hW4.ha x lvp _ hlvp hs3
  obtain⟨oXp,cXp,hXep,-,-,-,-,-⟩:=hW4.va.vec.shape
  rw[bK]at hXep
  subst hXep
  refine aQ.mk aB mixed (allT 0 13++[(13,false),(14,true),(15,false)]) [15] (by kernel_rfl) (fun w'=>bQ w' wb [nv,.slice oXp A.length cXp,kv] 159∧Vec w' B 126 1 (.slice oXp A.length cXp) (gP A)) ⟨(hW4.ext (Ext.drew w4)).blk,(hW4.ext (Ext.drew w4)).va.vec⟩ ?_
  have hEp:=Ext.drew w4
  have hWpd:=hW4.ext hEp
  have hXpd:=hHlp.ext hEp
  obtain⟨aXp,haXp,-⟩:=hWpd.va.vec.sl.el _ _ _ rfl x _ (dB hlvp)
  subst haXp
  refine Load.mk (.slice (some aXp) A.length cXp) (fun w' hS=>hS.1.cells.one (k:=1) rfl) ?_
  refine Load.mk (.slice (some aXp) A.length cXp) (fun w' hS=>hS.1.cells.one (k:=1) rfl) ?_
  refine Idx.mk aXp rfl (by omega) (by omega) ?_
  refine Load.mk lvp (fun w' hS=>by
   obtain⟨a',e,hx⟩:=hS.2.sl.el _ _ _ rfl x _ (dB hlvp)
   cases e
   exact hx.one (k:=0) rfl) ?_
  refine bD.append jS B (bS s3.attrs) (bS st.at_) hXpd.vec (hat4.ext hEp).vec.sl (gH _) (by rw[aO,aO];omega) (by rw[aO,aO];omega) (Nat.le_trans hB4 hEp.sz) fun lnp wp7 hlnp harp=>?_
  rw[←iQ]at hlnp
  have Xp7:=bT.app hXpd harp (by decide)
  have hnp7:=hXpd.yG harp hlnp
  have hrowp:=Xp7.held _ _ _ _ _ _ (by omega) hWpd.va
  refine Need.mk ⟨Xp7.blk _ _ hWpd.blk,hrowp.vec⟩ ?_
  refine Idx.mk aXp rfl (by omega) (by omega) ?_
  obtain⟨olp,clp,hlep,-,-,-,-,-⟩:=hlnp.shape
  refine bA.kR (k:=x) [lnp] (by kernel_rfl) hrowp.vec rfl (by rw[bK];omega) rfl (by rw[hlep];rfl) (fun y hy=>by rw[List.mem_singleton.1 hy,hlep];rfl) fun wp8 gp csp hUp8 hBgp hgop hrowp8=>?_
  have hWp8:=hWpd.setA hs3 Xp7.w hnp7 hUp8 hgop hrowp8
  have Xp8:=bT.upd hrowp hgop hUp8 (by decide)
  have hKp:=((hK4.trans (.ext hEp)).trans (Xp7.nE (by omega))).trans (Xp8.nE (by decide))
  have hCp:=(((hC24.trans (.aL hEp)).trans (.cO harp (fun b hb=>(hXpd.vec.ge hb).1)))).trans (.bG hUp8 hBgp)
  have hKpp:=((((hX3.nE (by decide)).trans (hX4.nE (by decide))).trans (.ext hEp)).trans (Xp7.nE (by omega))).trans (Xp8.nE (by decide))
  have hB6:B≤wp8.heap.size:=Nat.le_trans hB hCp.size
  have hkdp:=Xp8.held _ _ _ _ _ _ (by decide) (Xp7.held _ _ _ _ _ _ (by omega) (hkd4.ext hEp))
  have hb6H:=hKpp _ _ _ _ _ (by decide) hb2H
  refine Load.here ((Held.blk1 hb6H).one (k:=0) rfl) ?_
  repeat' (first|refine gA ?_|refine gB ?_|refine gC ?_|refine Cond.yes ?_|refine Cond.no ?_|refine aK.bB (fun _=>?_) (fun g=>absurd (by omega) g)|refine aK.bB (fun g=>absurd g (by omega)) (fun _=>?_)|refine aK.bH (fun _=>?_) (fun g=>absurd g (by omega))|refine aK.bH (fun g=>absurd (by omega) g) (fun _=>?_)|refine aK.bP (fun _=>?_) (fun g=>absurd (by omega) g)|refine aK.bP (fun g=>absurd g (by omega)) (fun _=>?_)|refine aK.bU (fun _=>?_) (fun g=>absurd g (by omega))|refine aK.bU (fun g=>absurd (by omega) g) (fun _=>?_)|refine Cond.dec (fun _=>?_) (fun g=>absurd (by omega) g)|refine Cond.dec (fun g=>absurd g (by omega)) (fun _=>?_)|refine Cond.dH (fun _=>?_) (fun g=>absurd g (by omega))|refine Cond.dH (fun g=>absurd (by omega) g) (fun _=>?_))
  have hs4:(T.set x { s3 with attrs:=s3.attrs++st.at_ })[x]? = some { s3 with attrs:=s3.attrs++st.at_ }:=by rw[List.getElem?_set_self (by omega)]
  have hLq:K.length=T.length:=by rw[hWp8.lk,List.length_set]
  obtain⟨lvq,hlvq⟩:∃lv,K[x]? = some lv:=⟨_,List.getElem?_eq_getElem (by omega)⟩
  have hHlq:Held _ T0 wp8 B 3 1 (2*x+7) lvq (bS s3.kids):=hWp8.hk x lvq { s3 with attrs:=s3.attrs++st.at_ } hlvq hs4
  obtain⟨oXq,cXq,hXeq,-,-,-,-,-⟩:=hWp8.vk.vec.shape
  rw[bK]at hXeq
  subst hXeq
  refine aQ.mk aB mixed (allT 0 13++[(13,false),(14,true),(15,false)]) [15] (by kernel_rfl) (fun w'=>bQ w' wb [nv,.slice (some aXp) A.length cXp,.slice oXq K.length cXq] 159∧Vec w' B 126 1 (.slice oXq K.length cXq) (gP K)) ⟨(hWp8.ext (Ext.drew wp8)).blk,(hWp8.ext (Ext.drew wp8)).vk.vec⟩ ?_
  have hEq:=Ext.drew wp8
  have hWqd:=hWp8.ext hEq
  have hXqd:=hHlq.ext hEq
  obtain⟨aXq,haXq,-⟩:=hWqd.vk.vec.sl.el _ _ _ rfl x _ (dB hlvq)
  subst haXq
  refine Load.mk (.slice (some aXq) K.length cXq) (fun w' hS=>hS.1.cells.one (k:=2) rfl) ?_
  refine Load.mk (.slice (some aXq) K.length cXq) (fun w' hS=>hS.1.cells.one (k:=2) rfl) ?_
  refine Idx.mk aXq rfl (by omega) (by omega) ?_
  refine Load.mk lvq (fun w' hS=>by
   obtain⟨a',e,hx⟩:=hS.2.sl.el _ _ _ rfl x _ (dB hlvq)
   cases e
   exact hx.one (k:=0) rfl) ?_
  have hkdd:=hkdp.ext hEq
  refine bD.append jS B (bS st.kd) (bS s3.kids) hkdd.vec hXqd.vec.sl (gH _) (by rw[aO,aO];omega) (by rw[aO,aO];omega) (Nat.le_trans hB6 hEq.sz) fun lnq wq7 hlnq harq=>?_
  rw[←iQ]at hlnq
  have Xq6:=bT.app hkdd harq (by decide)
  have hnq6:=hkdd.yG harq hlnq
  obtain⟨Xq7,hnq7⟩:=hnq6.retag (2*x+7)
  have Xq7:=Xq6.trans Xq7
  have hrowq:=Xq7.held _ _ _ _ _ _ (by decide) hWqd.vk
  refine Need.mk ⟨Xq7.blk _ _ hWqd.blk,hrowq.vec⟩ ?_
  refine Idx.mk aXq rfl (by omega) (by omega) ?_
  obtain⟨olq,clq,hleq,-,-,-,-,-⟩:=hlnq.shape
  refine bA.kR (k:=x) [lnq] (by kernel_rfl) hrowq.vec rfl (by rw[bK];omega) rfl (by rw[hleq];rfl) (fun y hy=>by rw[List.mem_singleton.1 hy,hleq];rfl) fun wq8 gq csq hUq8 hBgq hgoq hrowq8=>?_
  have hWq8:=hWqd.setK hs4 (Xq7.wl (by decide) _) hnq7 hUq8 hgoq hrowq8
  have Xq8:=bT.upd hrowq hgoq hUq8 (by decide)
  have hKq:=((hKp.trans (.ext hEq)).trans (Xq7.nE (by decide))).trans (Xq8.nE (by decide))
  have hCq:=(((hCp.trans (.aL hEq)).trans (.cO harq (fun b hb=>(hkdd.vec.ge hb).1)))).trans (.bG hUq8 hBgq)
  have hdo:tQ S ⟨6,(x:Int),rx,pn⟩ x=T.set x (iG s3 st.at_ st.kd):=by
   unfold tQ
   simp only
   rw[hst]
   simp[dR,←hT,hs3]
  rw[hdo]
  rw[List.set_set]at hWq8
  exact Exists.intro _ ⟨⟨_,_,_,_,_,hWq8⟩,hKq,hCq⟩
 ·
  refine aQ.mk aB mixed (allT 0 9++[(9,false)]) [9] (by kernel_rfl) (fun w'=>w'=w2.drew) rfl ?_
  have hWd:=hW2.ext (Ext.drew w2)
  refine Load.here (hWd.blk.cells.one (k:=0) rfl) ?_
  refine Load.here ((Held.blk1 (hb2H.ext (Ext.drew w2))).one (k:=2) rfl) ?_
  obtain⟨g,cap,cur,hge,hgB,hgl,hBg,hcl,hown,hput⟩:=hWd.nodes.vec.put (k:=x) (off:=2) (by simp only[List.length_map];omega) [.string rx] (by simp)
  obtain⟨oN,nN,cN,aN,hNe,hNn,haN,-⟩:=hWd.cell hs1
  rw[hNe]at hge ⊢
  simp only[Value.slice.injEq]at hge
  obtain⟨hbe,-,-⟩:=hge
  refine Idx.mk ⟨g,0,none⟩ hbe (by omega) (by omega) ?_
  refine bA.store g (x*4+2) cur [.string rx] 50 (by rw[bW,bW];simp) rfl (by kernel_rfl) hBg (by simpa using hcl) (fun y hy=>by rw[List.mem_singleton.1 hy];rfl) fun w3 hU=>?_
  have hnv:=hput w3 hU
  have hcs:((st.S.map mY).map Nd.cells).set x (splice (((st.S.map mY).map Nd.cells)[x]'(by simp only[List.length_map];omega)) 2 [.string rx])=((st.S.set x (setVal rx s)).map mY).map Nd.cells:=by
   rw[List.map_set,List.map_set]
   congr 1
   have:st.S[x]'(by omega)=s:=by
    have:=List.getElem?_eq_getElem (l:=st.S) (i:=x) (by omega)
    rw[hs1]at this
    exact(Option.some.inj this).symm
   rw[List.getElem_map,List.getElem_map,this]
   rfl
  rw[hcs]at hnv
  have X3:=bT.upd hWd.nodes hown hU (by decide)
  have hW3:=hWd.put (s':=setVal rx s) hs1 rfl rfl hU hown hnv
  have hdo:tQ S ⟨2,(x:Int),rx,pn⟩ x=st.S.set x (setVal rx s):=by
   unfold tQ
   simp only
   rw[hst]
   simp[dR,hs1]
  rw[hdo]
  exact Exists.intro own2 ⟨⟨_,_,_,_,_,hW3⟩,(hK2.trans (.ext (Ext.drew w2))).trans (X3.nE (by decide)),(hC2.trans (.aL (Ext.drew w2))).trans (.bG hU hgB)⟩
 ·
  refine aQ.mk aB mixed (allT 0 9++[(9,false)]) [9] (by kernel_rfl) (fun w'=>w'=w2.drew) rfl ?_
  have hWd:=hW2.ext (Ext.drew w2)
  refine Load.here (hWd.blk.cells.one (k:=0) rfl) ?_
  refine Load.here ((Held.blk1 (hb2H.ext (Ext.drew w2))).one (k:=2) rfl) ?_
  obtain⟨g,cap,cur,hge,hgB,hgl,hBg,hcl,hown,hput⟩:=hWd.nodes.vec.put (k:=x) (off:=1) (by simp only[List.length_map];omega) [.string rx] (by simp)
  obtain⟨oN,nN,cN,aN,hNe,hNn,haN,-⟩:=hWd.cell hs1
  rw[hNe]at hge ⊢
  simp only[Value.slice.injEq]at hge
  obtain⟨hbe,-,-⟩:=hge
  refine Idx.mk ⟨g,0,none⟩ hbe (by omega) (by omega) ?_
  refine bA.store g (x*4+1) cur [.string rx] 50 (by rw[bW,bW];simp) rfl (by kernel_rfl) hBg (by simpa using hcl) (fun y hy=>by rw[List.mem_singleton.1 hy];rfl) fun w3 hU=>?_
  have hnv:=hput w3 hU
  have hcs:((st.S.map mY).map Nd.cells).set x (splice (((st.S.map mY).map Nd.cells)[x]'(by simp only[List.length_map];omega)) 1 [.string rx])=((st.S.set x (setName rx s)).map mY).map Nd.cells:=by
   rw[List.map_set,List.map_set]
   congr 1
   have:st.S[x]'(by omega)=s:=by
    have:=List.getElem?_eq_getElem (l:=st.S) (i:=x) (by omega)
    rw[hs1]at this
    exact(Option.some.inj this).symm
   rw[List.getElem_map,List.getElem_map,this]
   rfl
  rw[hcs]at hnv
  have X3:=bT.upd hWd.nodes hown hU (by decide)
  have hW3:=hWd.put (s':=setName rx s) hs1 rfl rfl hU hown hnv
  have hdo:tQ S ⟨3,(x:Int),rx,pn⟩ x=st.S.set x (setName rx s):=by
   unfold tQ
   simp only
   rw[hst]
   simp[dR,hs1]
  rw[hdo]
  exact Exists.intro own2 ⟨⟨_,_,_,_,_,hW3⟩,(hK2.trans (.ext (Ext.drew w2))).trans (X3.nE (by decide)),(hC2.trans (.aL (Ext.drew w2))).trans (.bG hU hgB)⟩
 ·
  obtain⟨s',u,hs',hup⟩:=hp.up (by simp)
  rw[hs]at hs'
  cases hs'
  have hul:u<S.length:=hSI.up x s hs u hup
  refine aA.mk _ (qA wb B B 3 x u 0 0 own2 st.S s nv av kv vk A K (st.kd) w2 hW2 hs1 hup (by omega) hR.kd (by decide) (fun j hj=>(hkd j hj).2) (by omega) hbd (by decide) (Nat.le_trans hB hC2.size) (by omega)) ?_
  rintro v w9 ⟨own9,hW9⟩
  have hdo:tQ S ⟨4,(x:Int),rx,pn⟩ x=eD st.S x u 0 0 (st.kd):=by
   unfold tQ
   simp only
   rw[hst]
   simp[tT,hs,hup]
  rw[hdo]
  exact Exists.intro own9 ⟨hW9.work,hK2.trans hW9.keep,hC2.trans hW9.ch⟩
 ·
  obtain⟨s',u,hs',hup⟩:=hp.up (by simp)
  rw[hs]at hs'
  cases hs'
  have hul:u<S.length:=hSI.up x s hs u hup
  refine aA.mk _ (qA wb B B 3 x u 1 0 own2 st.S s nv av kv vk A K (st.kd) w2 hW2 hs1 hup (by omega) hR.kd (by decide) (fun j hj=>(hkd j hj).2) (by omega) hbd (by decide) (Nat.le_trans hB hC2.size) (by omega)) ?_
  rintro v w9 ⟨own9,hW9⟩
  have hdo:tQ S ⟨5,(x:Int),rx,pn⟩ x=eD st.S x u 1 0 (st.kd):=by
   unfold tQ
   simp only
   rw[hst]
   simp[tT,hs,hup]
  rw[hdo]
  exact Exists.intro own9 ⟨hW9.work,hK2.trans hW9.keep,hC2.trans hW9.ch⟩
 ·
  refine bD.append jS B (bS st.at_) (bS st.kd) hR.at_.vec hR.kd.vec.sl (gH _) (by rw[aO,aO];omega) (by rw[aO,aO];omega) (Nat.le_trans hB hC2.size) fun vm w3 hvm har=>?_
  rw[←iQ]at hvm
  have X3:=bT.app hR.at_ har (by decide)
  have hm3:=hR.at_.yG har hvm
  have hW3:=hW2.keep X3 (by decide)
  have hK3:=hK2.trans (X3.nE (by decide))
  have hC3:=hC2.trans (.cO har (fun b hb=>(hR.at_.vec.ge hb).1))
  generalize gK own2 w2.heap.size 2=own5 at *
  obtain⟨s',u,hs',hup⟩:=hp.up (by simp)
  rw[hs]at hs'
  cases hs'
  have hul:u<S.length:=hSI.up x s hs u hup
  refine aA.mk _ (qA wb B B 2 x u 0 1 own5 st.S s nv av kv vm A K (st.at_++st.kd) w3 hW3 hs1 hup (by omega) hm3 (by decide) (fun j hj=>by rcases List.mem_append.1 hj with h|h;exact(hat j h).2;exact(hkd j h).2) (by simp only[List.length_append];omega) hbd (by decide) (Nat.le_trans hB hC3.size) (by omega)) ?_
  rintro v w9 ⟨own9,hW9⟩
  have hdo:tQ S ⟨8,(x:Int),rx,pn⟩ x=eD st.S x u 0 1 (st.at_++st.kd):=by
   unfold tQ
   simp only
   rw[hst]
   simp[tT,hs,hup]
  rw[hdo]
  exact Exists.intro own9 ⟨hW9.work,hK3.trans hW9.keep,hC3.trans hW9.ch⟩
 ·
  refine Load.here (hb2.one (k:=2) rfl) ?_
  refine aG.mk _ _ (run_build50p _ _ _) ?_
  refine aA.mk _ (add_con wb B own2 st.S nv av kv A K ⟨4,⟨#[]⟩,rx,x⟩ ⟨jH rx,some x,[],[]⟩ rfl rfl rfl w2 hW2 (by omega) (Nat.le_trans hB hC2.size)) ?_
  rintro v w3 ⟨rfl,own3,nv3,av3,kv3,hW3,hL3,hC3⟩
  refine Load.here (hW3.blk.cells.one (k:=2) rfl) ?_
  refine aG.mk _ _ (pR _ _) ?_
  obtain⟨w4,hw4⟩:∃w',w'=w3.alloc (.cells #[.int .i64 st.S.length] 3):=⟨_,rfl⟩
  have n4:bO w3 w3.heap.size [.int .i64 st.S.length] 3 w4:=⟨rfl,hw4⟩
  rw[←hw4]
  have X4:=bT.extN (q0:=2*x+7) (own:=own3) n4.ext
  have hs3:(st.S++[(⟨jH rx,some x,[],[]⟩:PN)])[x]? = some s:=by rw[List.getElem?_append_left hx1];exact hs1
  obtain⟨oX,cX,hXe,-,-,-,-,-⟩:=hW3.vk.vec.shape
  have hlk3:=hW3.lk
  rw[bK]at hXe
  have hKl:(K++[Value.slice none 0 0]).length=st.S.length+1:=by rw[hlk3];simp
  have hrow4:=X4.held _ _ _ _ _ _ (by omega) hW3.vk
  obtain⟨aX,haX,-⟩:=hrow4.vec.sl.el _ _ _ hXe x _ (dB (List.getElem?_eq_getElem (by omega)))
  rw[hXe]
  refine Idx.mk aX haX (by omega) (by omega) ?_
  have hB3:B≤w3.heap.size:=Nat.le_trans hB (Nat.le_trans hC2.size hC3.size)
  have hn4:Held (gK own3 w3.heap.size (2*x+7)) T0 w4 B 3 1 (2*x+7) (.slice (some ⟨w3.heap.size,0,none⟩) 1 1) (bS [st.S.length]):=⟨Vec.wM (xs:=[[.int .i64 st.S.length]]) (sz:=1) n4 rfl (fun y hy=>by rw[List.mem_singleton.1 hy];rfl) (by simp[maxLen]) hB3,fun g hg=>⟨by
   have e1:some w3.heap.size=some g:=hg
   cases e1
   unfold gK
   rw[if_neg (by omega)],trivial⟩⟩
  refine bA.kR (k:=x) [.slice (some ⟨w3.heap.size,0,none⟩) 1 1] (by kernel_rfl) (hXe▸hrow4.vec) haX (by rw[bK];omega) rfl rfl (fun y hy=>by rw[List.mem_singleton.1 hy];rfl) fun w8 g cs hU8 hBg hgo hrow8=>?_
  rw[←hXe]at hgo hrow8
  have hW8:=hW3.setK hs3 X4.w hn4 hU8 hgo hrow8
  have X8:=bT.upd hrow4 hgo hU8 (by decide)
  have hdo:tQ S ⟨9,(x:Int),rx,pn⟩ x=(st.S++[(⟨jH rx,some x,[],[]⟩:PN)]).set x { s with kids:=[st.S.length] }:=by
   unfold tQ
   simp only
   rw[hst]
   have e:bE (st.S++[(⟨jH rx,none,[],[]⟩:PN)]) x [st.S.length]=st.S++[(⟨jH rx,some x,[],[]⟩:PN)]:=by
    simp[bE,jN,qZ]
   simp[dR,e,hs3,rX]
  rw[hdo]
  exact Exists.intro _ ⟨⟨_,_,_,_,_,hW8⟩,((hK2.trans hL3.nE).trans (X4.nE (by omega))).trans (X8.nE (by decide)),((hC2.trans hC3).trans (.aL n4.ext)).trans (.bG hU8 hBg)⟩
 ·
  obtain⟨s',u,hs',hup⟩:=hp.up (by simp)
  rw[hs]at hs'
  cases hs'
  have hul:u<S.length:=hSI.up x s hs u hup
  refine aA.mk _ (qA wb B B 2 x u 0 1 own2 st.S s nv av kv (.slice none 0 0) A K [] w2 hW2 hs1 hup (by omega) ⟨Vec.nil _ _ _ _,fun g hg=>by cases hg⟩ (by decide) (fun j hj=>by cases hj) (by simp) hbd (by decide) (Nat.le_trans hB hC2.size) (by omega)) ?_
  rintro v w9 ⟨own9,hW9⟩
  have hdo:tQ S ⟨10,(x:Int),rx,pn⟩ x=eD st.S x u 0 1 []:=by
   unfold tQ
   simp only
   rw[hst]
   simp[tT,hs,hup]
  rw[hdo]
  exact Exists.intro own9 ⟨hW9.work,hK2.trans hW9.keep,hC2.trans hW9.ch⟩
def FlatC(wb B:Nat)(own:Nat→Nat)(S:List PN)(nv av kv:Value)(A K:List Value)(w0:World)(n:Nat):Prop:=∀(i:Nat) (par:Int) (Lo:List Nd) (w:World) (vo:Value),S.length≤n+i→i<S.length→Ext w0 w→
  Vec w w0.heap.size 50 4 vo (Lo.map Nd.cells)→Lo.length+(tg S n i par Lo.length).length≤1000000000→
  bV Tryz.prog 119 #[.pointer (some ⟨wb,0,none⟩),.int .i64 i,.int .i64 par,vo] w (fun v w'=>Ext w0 w'∧Vec w' w0.heap.size 50 4 v ((Lo++tg S n i par Lo.length).map Nd.cells))
set_option maxHeartbeats 3200000 in
theorem flat_step(wb B:Nat)(own:Nat→Nat)(S:List PN)(nv av kv:Value)(A K:List Value)(w0:World)(hW0:iB w0 B wb own S nv av kv A K)(hd:Down S)(hSl:S.length≤1000000000)(hBw:B≤w0.heap.size)(n:Nat)(ih:FlatC wb B own S nv av kv A K w0 n):FlatC wb B own S nv av kv A K w0 (n+1):=by
 intro i par Lo w vo h1 h2 hE0 hvo hlen
 have hml:maxLen=9223372036854775807:=rfl
 obtain⟨s,hs⟩:∃s,S[i]? = some s:=⟨_,List.getElem?_eq_getElem h2⟩
 have htgs:tg S (n+1) i par Lo.length=withParent s.row par::nC (tg S n) Lo.length (Lo.length+1) (s.attrs++s.kids):=by
  simp only[tg,hs]
 rw[htgs]at hlen ⊢
 rw[qJ]at hlen ⊢
 simp only[List.length_cons,List.length_append]at hlen
 obtain⟨oo,co,hoe,-,-,-,-,-⟩:=hvo.shape
 rw[List.length_map]at hoe
 subst hoe
 have hW:=hW0.ext hE0
 obtain⟨oN,nN,cN,aN,hNe,hNn,haN,hcN⟩:=hW.cell hs
 refine enter aB Tryz.func119 (aV rfl) rfl rfl rfl ?_
 refine Load.here (hW.blk.cells.one (k:=0) rfl) ?_
 rw[hNe]
 refine Idx.mk aN haN (by omega) (by omega) ?_
 refine Load.here (hcN.all' rfl) ?_
 refine aG.alloc _ [.int .u8 0,.string ⟨#[]⟩,.string ⟨#[]⟩,.int .i64 0] mU rfl fun b w2 n2=>?_
 refine bA.store b 0 _ (mY s).cells 50 rfl rfl (by kernel_rfl) n2.blk (by simp[Nd.cells]) (Nd.cells_one _) fun w3 hU=>?_
 have n3:=n2.upd hU
 have hb3:bQ w3 b (mY s).cells 50:=n3.blk
 refine bA.store b 3 _ [.int .i64 par] 50 rfl rfl (by kernel_rfl) hb3 (by simp[Nd.cells]) (fun y hy=>by rw[List.mem_singleton.1 hy];rfl) fun w4 hU4=>?_
 have n4:bO w b (withParent s.row par).cells 50 w4:=n3.upd hU4
 have hE4:=hE0.trans n4.ext
 refine Load.here (n4.blk.cells.all' rfl) ?_
 refine aG.mk _ _ (aY _ _ _ _ _) ?_
 obtain⟨w5,hw5⟩:∃w',w'=w4.alloc (.cells (withParent s.row par).cells.toArray 50):=⟨_,rfl⟩
 have n5:bO w4 w4.heap.size (withParent s.row par).cells 50 w5:=⟨rfl,hw5⟩
 refine(show _ from ?_:bD _ _ w5 _) |> fun h=>by rw[hw5]at h;exact h
 have hE5:=hE4.trans n5.ext
 have hv5:=(hvo.ext n4.ext).ext n5.ext
 refine bD.append bI w0.heap.size _ [(withParent s.row par).cells] hv5 (aT n5) (fun y hy=>by
  rw[List.mem_singleton.1 hy]
  exact⟨rfl,Nd.cells_one _⟩) (by rw[List.length_map,List.length_singleton];omega) (by rw[List.length_map,List.length_singleton];omega) hE5.sz fun vb1 wb1 hvb1 har=>?_
 have hEb1:Ext w0 wb1:=Below.trans hE5 (har.below hE5.sz fun b hb=>(hv5.ge hb).1)
 obtain⟨L1,hL1⟩:∃L1,L1=Lo++[withParent s.row par]:=⟨_,rfl⟩
 have hvb1:Vec wb1 w0.heap.size 50 4 vb1 (L1.map Nd.cells):=by rw[hL1,List.map_append];exact hvb1
 have hL1l:L1.length=Lo.length+1:=by rw[hL1];simp
 rw[←hL1l]at hlen ⊢
 have hlen1:L1.length+(nC (tg S n) Lo.length L1.length s.attrs).length≤1000000000:=by omega
 obtain⟨oX1,cX1,hXe1,-,-,-,-,-⟩:=hW0.va.vec.shape
 rw[bK]at hXe1
 obtain⟨lv1,hlv1⟩:∃lv,A[i]? = some lv:=⟨_,List.getElem?_eq_getElem (by have:=hW0.la;omega)⟩
 have hHl1:=hW0.ha i lv1 s hlv1 hs
 obtain⟨ol1,cl1,hle1,hm1,hn1,-,-,-⟩:=hHl1.vec.shape
 rw[aO]at hle1 hm1
 have rd1:∀w',Ext w0 w'→∃a,oX1=some a∧Cells w' (a.add (i*1)) [lv1]:=fun w' hE=>(hW0.ext hE).va.vec.sl.el _ _ _ hXe1 i _ (dB hlv1)
 have hlk1:=hW0.la
 refine aH.mk (X:=Nat × Value) (fun x=>[(0,.pointer (some ⟨wb,0,none⟩)),(1,.int .i64 i),(3,x.2),(10,.int .i64 Lo.length),(11,.int .i64 x.1)])
  (fun x w'=>Ext w0 w'∧x.1≤s.attrs.length∧Vec w' w0.heap.size 50 4 x.2 ((L1++nC (tg S n) Lo.length L1.length (s.attrs.take x.1)).map Nd.cells)) (fun x=>s.attrs.length-x.1) (0,_) ⟨hEb1,Nat.zero_le _,by simpa [nC] using hvb1⟩ ⟨rfl,rfl,rfl,rfl,rfl,trivial⟩ ?_
 rintro⟨j,vj⟩ w11 ⟨hE11,hj1,hv11⟩
 simp only at hj1 hv11 ⊢
 have hW11:=hW0.ext hE11
 refine Load.here (hW11.blk.cells.one (k:=1) rfl) ?_
 obtain⟨aX1,haX1,hcX1⟩:=rd1 w11 hE11
 rw[hXe1,haX1]
 refine Idx.mk aX1 rfl (by omega) (by omega) ?_
 refine Load.here (hcX1.one (k:=0) rfl) ?_
 rw[hle1]
 refine Cond.dec (fun g1=>?_) (fun g1=>?_)
 ·have hjl:j<s.attrs.length:=by omega
  have hW11b:=hW11.blk
  rw[hXe1,haX1]at hW11b
  refine Load.here (hW11b.cells.one (k:=1) rfl) ?_
  refine Idx.mk aX1 rfl (by omega) (by omega) ?_
  rw[hle1]at hcX1
  refine Load.here (hcX1.one (k:=0) rfl) ?_
  obtain⟨al,hal,hcl⟩:=(hHl1.ext hE11).vec.sl.el _ _ _ hle1 j _ (vG hjl)
  refine Idx.mk al hal (by omega) (by omega) ?_
  refine Load.here (hcl.one (k:=0) rfl) ?_
  have hd:=(hd i s hs).1 _ (List.getElem_mem hjl)
  have hlenj:(L1++nC (tg S n) Lo.length L1.length (s.attrs.take j)).length+(tg S n (s.attrs[j]) Lo.length (L1++nC (tg S n) Lo.length L1.length (s.attrs.take j)).length).length≤1000000000:=by
   have e:=qJ (tg S n) Lo.length L1.length (s.attrs.take j) (s.attrs.drop j)
   rw[List.take_append_drop,←List.getElem_cons_drop hjl]at e
   have e2:=congrArg List.length e
   simp only[nC,List.length_append]at e2 ⊢
   have:=hlen1
   omega
  refine aA.mk _ (ih (s.attrs[j]) Lo.length _ w11 vj (by omega) hd.2 hE11 hv11 hlenj) ?_
  rintro v w12 ⟨hE12,hv12⟩
  refine Ar.aM (j+1) (by omega) (by omega) ?_
  refine⟨(j+1,v),⟨hE12,by simp only;omega,?_⟩,by simp only;omega,rfl,rfl,rfl,rfl,rfl,trivial⟩
  simp only
  have e3:L1++nC (tg S n) Lo.length L1.length (s.attrs.take (j+1))=(L1++nC (tg S n) Lo.length L1.length (s.attrs.take j))++tg S n (s.attrs[j]) Lo.length (L1++nC (tg S n) Lo.length L1.length (s.attrs.take j)).length:=by
   rw[List.take_succ_eq_append_getElem hjl,qJ,List.append_assoc,List.length_append]
   simp[nC]
  rw[e3]
  exact hv12
 have hjn1:j=s.attrs.length:=by omega
 subst hjn1
 rw[List.take_length]at hv11
 obtain⟨L2,hL2⟩:∃L2,L2=L1++nC (tg S n) Lo.length L1.length s.attrs:=⟨_,rfl⟩
 have hL2l:L2.length=L1.length+(nC (tg S n) Lo.length L1.length s.attrs).length:=by rw[hL2];simp
 rw[←hL2]at hv11
 rw[←hL2l]at hlen ⊢
 have hlen2:L2.length+(nC (tg S n) Lo.length L2.length s.kids).length≤1000000000:=by omega
 have hEb2:=hE11
 have hvb2:=hv11
 obtain⟨oX2,cX2,hXe2,-,-,-,-,-⟩:=hW0.vk.vec.shape
 rw[bK]at hXe2
 obtain⟨lv2,hlv2⟩:∃lv,K[i]? = some lv:=⟨_,List.getElem?_eq_getElem (by have:=hW0.lk;omega)⟩
 have hHl2:=hW0.hk i lv2 s hlv2 hs
 obtain⟨ol2,cl2,hle2,hm2,hn2,-,-,-⟩:=hHl2.vec.shape
 rw[aO]at hle2 hm2
 have rd2:∀w',Ext w0 w'→∃a,oX2=some a∧Cells w' (a.add (i*1)) [lv2]:=fun w' hE=>(hW0.ext hE).vk.vec.sl.el _ _ _ hXe2 i _ (dB hlv2)
 have hlk2:=hW0.lk
 refine aH.mk (X:=Nat × Value) (fun x=>[(0,.pointer (some ⟨wb,0,none⟩)),(1,.int .i64 i),(3,x.2),(10,.int .i64 Lo.length),(12,.int .i64 x.1)])
  (fun x w'=>Ext w0 w'∧x.1≤s.kids.length∧Vec w' w0.heap.size 50 4 x.2 ((L2++nC (tg S n) Lo.length L2.length (s.kids.take x.1)).map Nd.cells)) (fun x=>s.kids.length-x.1) (0,_) ⟨hEb2,Nat.zero_le _,by simpa [nC] using hvb2⟩ ⟨rfl,rfl,rfl,rfl,rfl,trivial⟩ ?_
 rintro⟨j,vj⟩ w21 ⟨hE21,hj2,hv21⟩
 simp only at hj2 hv21 ⊢
 have hW21:=hW0.ext hE21
 refine Load.here (hW21.blk.cells.one (k:=2) rfl) ?_
 obtain⟨aX2,haX2,hcX2⟩:=rd2 w21 hE21
 rw[hXe2,haX2]
 refine Idx.mk aX2 rfl (by omega) (by omega) ?_
 refine Load.here (hcX2.one (k:=0) rfl) ?_
 rw[hle2]
 refine Cond.dec (fun g2=>?_) (fun g2=>?_)
 ·have hjl:j<s.kids.length:=by omega
  have hW21b:=hW21.blk
  rw[hXe2,haX2]at hW21b
  refine Load.here (hW21b.cells.one (k:=2) rfl) ?_
  refine Idx.mk aX2 rfl (by omega) (by omega) ?_
  rw[hle2]at hcX2
  refine Load.here (hcX2.one (k:=0) rfl) ?_
  obtain⟨al,hal,hcl⟩:=(hHl2.ext hE21).vec.sl.el _ _ _ hle2 j _ (vG hjl)
  refine Idx.mk al hal (by omega) (by omega) ?_
  refine Load.here (hcl.one (k:=0) rfl) ?_
  have hd:=(hd i s hs).2 _ (List.getElem_mem hjl)
  have hlenj:(L2++nC (tg S n) Lo.length L2.length (s.kids.take j)).length+(tg S n (s.kids[j]) Lo.length (L2++nC (tg S n) Lo.length L2.length (s.kids.take j)).length).length≤1000000000:=by
   have e:=qJ (tg S n) Lo.length L2.length (s.kids.take j) (s.kids.drop j)
   rw[List.take_append_drop,←List.getElem_cons_drop hjl]at e
   have e2:=congrArg List.length e
   simp only[nC,List.length_append]at e2 ⊢
   have:=hlen2
   omega
  refine aA.mk _ (ih (s.kids[j]) Lo.length _ w21 vj (by omega) hd.2 hE21 hv21 hlenj) ?_
  rintro v w22 ⟨hE22,hv22⟩
  refine Ar.aM (j+1) (by omega) (by omega) ?_
  refine⟨(j+1,v),⟨hE22,by simp only;omega,?_⟩,by simp only;omega,rfl,rfl,rfl,rfl,rfl,trivial⟩
  simp only
  have e3:L2++nC (tg S n) Lo.length L2.length (s.kids.take (j+1))=(L2++nC (tg S n) Lo.length L2.length (s.kids.take j))++tg S n (s.kids[j]) Lo.length (L2++nC (tg S n) Lo.length L2.length (s.kids.take j)).length:=by
   rw[List.take_succ_eq_append_getElem hjl,qJ,List.append_assoc,List.length_append]
   simp[nC]
  rw[e3]
  exact hv22
 have hjn2:j=s.kids.length:=by omega
 subst hjn2
 rw[List.take_length]at hv21
 refine And.intro hE21 ?_
 have e:Lo++withParent s.row par::(nC (tg S n) Lo.length L1.length s.attrs++nC (tg S n) Lo.length L2.length s.kids)=L2++nC (tg S n) Lo.length L2.length s.kids:=by rw[hL2,hL1];simp
 rw[e]
 exact hv21
theorem flat_con(wb B:Nat)(own:Nat→Nat)(S:List PN)(nv av kv:Value)(A K:List Value)(w0:World)(hW0:iB w0 B wb own S nv av kv A K)(hd:Down S)(hSl:S.length≤1000000000)(hBw:B≤w0.heap.size)(n:Nat):FlatC wb B own S nv av kv A K w0 n:=by
 induction n with
 | zero=>intro i par Lo w vo h1 h2;omega
 | succ n ih=>exact flat_step wb B own S nv av kv A K w0 hW0 hd hSl hBw n ih
theorem below_con(v:Value)(t:List Nd)(i at_:Nat)(w:World)(ht:aJ w v t)(hord:Ord t t.length)(hi:i<t.length) :
  bV Tryz.prog 205 #[v,.int .i64 i,.int .i64 at_] w (fun v' w'=>(∃b,v'=.bool b∧(i=at_+1→b=decide ((nd t (i:Int)).parent=at_)))∧w'=w):=by
 have hml:maxLen=9223372036854775807:=rfl
 obtain⟨o,c,rfl,h1,h2,h3,h4⟩:=ht.open_
 obtain⟨q,hq⟩:∃q,q=(nd t (i:Int)).parent:=⟨_,rfl⟩
 have hqb:=hord i hi
 rw[←hq]at hqb ⊢
 refine enter aB Tryz.func205 (aV rfl) rfl rfl rfl ?_
 refine aH.mk (X:=Int) (fun p=>[(0,.slice o t.length c),(2,.int .i64 at_),(7,.int .i64 p)])
  (fun p w'=>w'=w∧-1≤p∧p≤i∧(p=i∨p=q∨(p<q∧q≠at_))) (fun p=>(p+1).toNat) i ⟨rfl,by omega,by omega,.inl rfl⟩ ⟨rfl,rfl,rfl,trivial⟩ ?_
 rintro p w1 ⟨hw,hp0,hpi,hp⟩
 have hw':=hw.symm
 subst hw'
 refine Cond.dec (fun g1=>?_) (fun g1=>?_)
 ·refine Cond.dec (fun g2=>?_) (fun g2=>?_)
  ·refine And.intro ⟨true,rfl,fun e=>?_⟩ rfl
   have:q=at_:=by omega
   simp[this]
  ·obtain⟨k,rfl⟩:∃k:Nat,p=k:=⟨p.toNat,by omega⟩
   have hk:k<t.length:=by omega
   obtain⟨a,ha,hc⟩:=h4 w (Ext.refl _) k hk
   subst ha
   refine Idx.mk a rfl (by omega) (by omega) ?_
   refine Load.here (hc.one (k:=3) rfl) ?_
   have hkb:=hord k hk
   have hnk:=eT hk
   rw[hnk]at hkb
   refine⟨(t[k]).parent,⟨rfl,by omega,by omega,?_⟩,by omega,rfl,rfl,rfl,trivial⟩
   rcases hp with e|e|e
   ·have:k=i:=by omega
    subst this
    rw[hnk]at hq
    exact .inr (.inl hq.symm)
   ·exact .inr (.inr ⟨by omega,by omega⟩)
   ·exact .inr (.inr ⟨by omega,e.2⟩)
 ·refine And.intro ⟨false,rfl,fun e=>?_⟩ rfl
  have:¬q=at_:=by omega
  simp[this]
def aloneT(t:List Nd)(i:Nat):Prop:=i+1=t.length∨(nd t ((i+1:Nat):Int)).parent≠i
theorem end_con(v:Value)(t:List Nd)(i:Nat)(w:World)(ht:aJ w v t)(hord:Ord t t.length)(hi:i<t.length) :
  bV Tryz.prog 176 #[v,.int .i64 i] w (fun v' w'=>(∃e:Int,v'=.int .i64 e∧(e=i+1↔aloneT t i))∧w'=w):=by
 have hml:maxLen=9223372036854775807:=rfl
 have ht0:=ht
 obtain⟨o,c,rfl,h1,h2,h3,h4⟩:=ht0.open_
 refine enter aB Tryz.func176 (aV rfl) rfl rfl rfl ?_
 refine Ar.aM (i+1) (by omega) (by omega) ?_
 refine aH.mk (X:=Nat) (fun k=>[(0,.slice o t.length c),(1,.int .i64 i),(5,.int .i64 k)])
  (fun k w'=>w'=w∧i+1≤k∧k≤t.length∧(k=i+1∨¬aloneT t i)) (fun k=>t.length-k) (i+1) ⟨rfl,Nat.le_refl _,by omega,.inl rfl⟩ ⟨rfl,rfl,rfl,trivial⟩ ?_
 rintro k w1 ⟨hw,hk0,hk1,hk⟩
 have hw':=hw.symm
 subst hw'
 refine aK.bB (fun g1=>?_) (fun g1=>?_)
 ·have hkl:k<t.length:=by omega
  repeat (first|refine gA ?_|refine gB ?_|refine gC ?_)
  refine aA.mk _ (below_con _ t k i w ht hord hkl) ?_
  rintro v w2 ⟨⟨b,rfl,hb⟩,hw2⟩
  have hw2':=hw2.symm
  subst hw2'
  repeat (first|refine gA ?_|refine gB ?_|refine gC ?_)
  refine Cond.mk (fun g2=>?_) (fun g2=>?_)
  ·refine Ar.aM (k+1) (by omega) (by omega) ?_
   refine⟨k+1,⟨rfl,by omega,by omega,.inr ?_⟩,by omega,rfl,rfl,rfl,trivial⟩
   rcases hk with e|e
   ·have:=hb e
    rw[g2]at this
    have hpar:=of_decide_eq_true this.symm
    rw[e]at hpar
    rintro(h|h)
    ·omega
    ·exact h hpar
   ·exact e
  ·refine And.intro ⟨k,rfl,?_⟩ rfl
   rcases hk with e|e
   ·refine⟨fun _=>.inr ?_,fun _=>by omega⟩
    have:=hb e
    rw[g2]at this
    have hpar:=of_decide_eq_false this.symm
    rw[e]at hpar
    exact hpar
   ·refine⟨fun h=>?_,fun h=>absurd h e⟩
    have hk2:k=i+1:=by omega
    by_cases h':aloneT t i
    ·exact h'
    ·exfalso
     have:=hb hk2
     rw[g2]at this
     have hpar:=of_decide_eq_false this.symm
     rw[hk2]at hpar
     exact h' (.inr hpar)
 ·repeat (first|refine gA ?_|refine gB ?_|refine gC ?_)
  refine Cond.no ?_
  refine And.intro ⟨k,rfl,?_⟩ rfl
  rcases hk with e|e
  ·exact⟨fun _=>.inl (by omega),fun _=>by omega⟩
  ·refine⟨fun h=>.inl (by omega),fun h=>absurd h e⟩
def qD(out:List Nd)(p:Int):Nat→Int
 | 0=>-1
 | k+1=>if p<(k:Int)then(if(nd out (k:Int)).parent=p∧(nd out (k:Int)).kind≠3 then(k:Int)else qD out p k)else -1
def joinsR(out:List Nd)(p:Int):Bool:=decide (0≤qD out p out.length)&&(decide ((nd out (qD out p out.length)).kind=4)&&decide (qD out p out.length=(out.length:Int)-1))
def rstepB(t:List Nd)(s:sF)(i:Nat):sF:=
 let x:=movedN s (nd t i)
 let tt:=s.tt.set i s.out.length
 if gJ t i=true∧x.value=aP then⟨s.out,tt⟩
 else if gJ t i=true∧joinsR s.out x.parent=true then⟨s.out.set (s.out.length-1) (lF (s.out.getD (s.out.length-1) nd0) x.value),tt⟩
 else⟨s.out++[x],tt⟩
def wN(t:List Nd):Nat→sF
 | 0=>⟨[],List.replicate t.length 0⟩
 | k+1=>rstepB t (wN t k) k
def gQ(t:List Nd):List Nd:=if 16384<t.length then []else if(List.range t.length).all (fB t)=true then(wN t t.length).out else []
theorem lastF_le(out:List Nd)(p:Int):∀k,-1≤qD out p k∧qD out p k<k
 | 0=>by simp[qD]
 | k+1=>by
   have:=lastF_le out p k
   simp only[qD]
   split
   ·split<;>omega
   ·omega
theorem alone_t(t:List Nd)(i:Nat):gJ t i=true↔(nd t (i:Int)).kind=4∧aloneT t i:=by
 unfold gJ aloneT
 simp
theorem ord_all{t:List Nd}(h:(List.range t.length).all (fB t)=true):Ord t t.length:=by
 have:∀i,i≤t.length→Ord t i:=fun i=>by
  induction i with
  | zero=>intro _ j hj;exact absurd hj (Nat.not_lt_zero _)
  | succ i ih=>intro hi;exact(ih (by omega)).succ (List.all_eq_true.1 h i (List.mem_range.2 (by omega)))
 exact this _ (Nat.le_refl _)
structure MgJ(w w':World)(bt k n:Nat)(s:sF)(v:Value):Prop where
 ext:Ext w w'
 ok:xO s k n
 blk:bQ w' bt (ints (s.tt.set k s.out.length)) 3
 vec:Vec w' w.heap.size 50 4 v (s.out.map Nd.cells)
 nvt:v.ownBlock≠some bt
theorem MgJ.on{w w1 w2:World}{bt k n:Nat}{s:sF}{v:Value}(h:MgJ w w1 bt k n s v)(hE:Ext w1 w2):MgJ w w2 bt k n s v:=
 ⟨h.ext.trans hE,h.ok,h.blk.ext hE,h.vec.ext hE,h.nvt⟩
structure MgI(w w':World)(bt k n:Nat)(s:sF)(v:Value):Prop where
 ext:Ext w w'
 ok:xO s k n
 blk:bQ w' bt (ints s.tt) 3
 vec:Vec w' w.heap.size 50 4 v (s.out.map Nd.cells)
 nvt:v.ownBlock≠some bt
theorem MgJ.same{w w1:World}{bt k n:Nat}{s:sF}{v:Value}(h:MgJ w w1 bt k n s v):MgI w w1 bt (k+1) n ⟨s.out,s.tt.set k s.out.length⟩ v:=⟨h.ext,h.ok.same,h.blk,h.vec,h.nvt⟩
theorem MgJ.app{w w1 w2 w3:World}{bt k n b:Nat}{s:sF}{v v':Value}(h:MgJ w w1 bt k n s v){x:Nd}(h1:0≤x.kind∧x.kind≤255)(h2:-1≤x.parent∧x.parent≤k)(h3:x.name.size≤140737488355328)(h4:x.value.size≤65536)
  (hn:bO w1 b x.cells 50 w2) (hva:Vec w3 w.heap.size 50 4 v' (s.out.map Nd.cells++[x.cells])) (har:iO w2 v w3 v'):MgI w w3 bt (k+1) n ⟨s.out++[x],s.tt.set k s.out.length⟩ v':=by
 have hbl:=h.blk.lt
 have hsz:=hn.ext.sz
 refine⟨Below.trans (h.ext.trans hn.ext) (har.below (Nat.le_trans h.ext.sz hsz) fun b hb=>(h.vec.ge hb).1),h.ok.app x h1 h2 h3 h4,har.blk (h.blk.ext hn.ext) h.nvt,by rw[List.map_append];exact hva,fun e=>?_⟩
 rcases har.fresh _ e with e|e
 ·exact h.nvt e
 ·omega
set_option maxHeartbeats 3200000 in
theorem rMergeN_con(t:List Nd)(v:Value)(w:World)(ht:aJ w v t)(hval:∀x∈t,x.value.size≤65536) :
  bV Tryz.prog 121 #[v] w (fun v' w'=>Vec w' w.heap.size 50 4 v' ((gQ t).map Nd.cells)∧aJ w' v' (gQ t)∧Ext w w'):=by
 have hml:maxLen=9223372036854775807:=rfl
 have ht0:=ht
 obtain⟨o,c,rfl,h1,h2,h3,h4⟩:=ht0.open_
 have hl:=ht.len
 have empty:∀w',Ext w w'→gQ t=[]→(Vec w' w.heap.size 50 4 (aC [Value.slice none 0 0]) ((gQ t).map Nd.cells)∧aJ w' (aC [Value.slice none 0 0]) (gQ t)∧Ext w w'):=fun w' hE h=>by
  rw[h]
  exact⟨Vec.nil _ _ _ _,⟨eO.nil _ _,by simp,by simp⟩,hE⟩
 refine enter aB Tryz.func121 (aV rfl) rfl rfl rfl ?_
 refine aK.bH (fun g1=>?_) (fun g1=>?_)
 rotate_left
 ·repeat (first|refine gA ?_|refine gB ?_|refine gC ?_)
  refine Cond.yes ?_
  exact empty w (Ext.refl _) (by unfold gQ;rw[if_pos (by omega)])
 repeat (first|refine gA ?_|refine gB ?_|refine gC ?_)
 refine aA.mk _ (yM _ t w ht) ?_
 rintro v w1 ⟨rfl,hw⟩
 have hw':=hw.symm
 subst hw'
 repeat (first|refine gA ?_|refine gB ?_|refine gC ?_)
 refine Cond.neg (fun ho=>?_) (fun ho=>?_)
 ·exact empty w (Ext.refl _) (by unfold gQ;rw[if_neg (by omega),if_neg (by rw[ho];simp)])
 have hord:=ord_all ho
 have hrm:gQ t=(wN t t.length).out:=by unfold gQ;rw[if_neg (by omega),if_pos ho]
 have hlen:t.length≤16384:=by omega
 refine oJ hl fun bt w2 n2=>?_
 have s2:=n2.sz
 have e2:=n2.b_eq
 refine aH.mk (X:=Nat × Value) (fun x=>[(0,.slice o t.length c),(3,x.2),(4,.slice (some ⟨bt,0,none⟩) t.length t.length),(5,.int .i64 x.1)])
  (fun x w'=>x.1≤t.length∧MgI w w' bt x.1 t.length (wN t x.1) x.2) (fun x=>t.length-x.1) (0,.slice none 0 0)
  ⟨Nat.zero_le _,n2.ext,⟨Nat.le_refl _,by simp[wN],fun x hx=>by have:=List.eq_of_mem_replicate hx;omega,fun x hx=>by cases hx⟩,n2.blk,Vec.nil _ _ _ _,by simp[Value.ownBlock]⟩ ⟨rfl,rfl,rfl,rfl,trivial⟩ ?_
 rintro⟨k,v⟩ w3 ⟨hk,hM⟩
 simp only at hk hM ⊢
 refine Cond.dec (fun g2=>?_) (fun g2=>?_)
 rotate_left
 ·have hkl:k=t.length:=by omega
  subst hkl
  show Vec w3 w.heap.size 50 4 (aC [v]) ((gQ t).map Nd.cells)∧aJ w3 (aC [v]) (gQ t)∧Ext w w3
  rw[show aC [v]=v from rfl,hrm]
  have hol:=hM.ok.ol
  refine⟨hM.vec,⟨hM.vec.sl,fun x hx=>?_,by omega⟩,hM.ext⟩
  obtain⟨a1,a2,a3,a4,a5,a6⟩:=hM.ok.wf x hx
  exact⟨⟨a1,a2⟩,⟨by omega,by omega⟩,a5,by omega⟩
 have hkl:k<t.length:=by omega
 have hnd:=eT hkl
 have hrun:wN t (k+1)=rstepB t (wN t k) k:=rfl
 obtain⟨s,hs⟩:∃s,s=wN t k:=⟨_,rfl⟩
 rw[←hs]at hM hrun
 obtain⟨hE3,hok,hbt,hvec,nvt⟩:=hM
 have hol:=hok.ol
 have htl:=hok.tl
 obtain⟨ak,hak,hck⟩:=h4 _ hE3 k hkl
 have hwf:=ht.wf _ (List.getElem_mem hkl)
 have hvl:=hval _ (List.getElem_mem hkl)
 have hop:=hord k hkl
 rw[hnd]at hop
 refine Idx.mk ak hak (by omega) (by omega) ?_
 refine Load.here (hck.all' rfl) ?_
 refine aG.alloc _ [.int .u8 0,.string ⟨#[]⟩,.string ⟨#[]⟩,.int .i64 0] mU rfl fun bn w4 hn1=>?_
 generalize t[k]=x at *
 obtain⟨kind,name,value,parent⟩:=x
 refine bA.store bn 0 _ [.int .u8 kind,.string name,.string value,.int .i64 parent] 50 rfl rfl (by kernel_rfl) hn1.blk (by simp) (by simp[Value.oneCell']) fun w5 hn2=>?_
 have hN:=hn1.upd hn2
 have hbnE:=hN.b_eq
 have hbn:bQ w5 bn [.int .u8 kind,.string name,.string value,.int .i64 parent] 50:=hN.blk
 have hE5:=hE3.trans hN.ext
 clear hn1 hn2
 obtain⟨ov,cv,rfl,v1,v2,v3,v4,v5⟩:=hvec.shape
 simp only[List.length_map]at v1 hvec nvt ⊢
 have hbt5:=hbt.ext hN.ext
 have hvec5:=hvec.ext hN.ext
 have lt2:=hbt.lt
 simp only at hop
 have hwk:=hwf.kind
 have hwn:=hwf.name
 simp only at hwk hwn
 have hvl:value.size≤65536:=hvl
 obtain⟨p',hp0⟩:∃p',p'=(if 0≤parent then s.tt.getD parent.toNat 0 else parent):=⟨_,rfl⟩
 have hp':-1≤p'∧p'≤k:=by
  rw[hp0]
  split
  ·have:=hok.tt _ (lW (l:=s.tt) (i:=parent.toNat) (by omega));omega
  ·omega
 have hmv:movedN s ⟨kind,name,value,parent⟩=⟨kind,name,value,p'⟩:=by rw[hp0];rfl
 have hms:wN t (k+1)=(if gJ t k=true∧value=aP then⟨s.out,s.tt.set k s.out.length⟩
   else if gJ t k=true∧joinsR s.out p'=true then⟨s.out.set (s.out.length-1) (lF (s.out.getD (s.out.length-1) nd0) value),s.tt.set k s.out.length⟩
   else⟨s.out++[⟨kind,name,value,p'⟩],s.tt.set k s.out.length⟩):=by
  rw[hrun]
  unfold rstepB
  simp only[hnd,hmv]
 refine Load.here (hbn.cells.one rfl) ?_
 refine Cond.dec (fun g3=>?_) (fun g3=>?_)
 rotate_left
 have hpp:p'=parent:=by rw[hp0,if_neg g3]
 rw[←hpp]at hbn
 have hE7:=hE5
 have hbt7:=hbt5
 have hvec7:=hvec5
 have hbn7:=hbn
 obtain⟨w7,rfl⟩:∃w7,w7=w5:=⟨_,rfl⟩
 rotate_left
 have hpt:parent.toNat<s.tt.length:=by omega
 have hpp:s.tt[parent.toNat]=p':=by rw[hp0,if_pos g3];simp[hpt]
 refine Load.here (hbn.cells.one rfl) ?_
 refine Idx.mk ⟨bt,0,none⟩ rfl (by omega) (by omega) ?_
 refine Load.here (fG hbt5 hpt) ?_
 rw[hpp]
 refine bA.store bn (0+3) _ [.int .i64 p'] 50 (bW _ _ _) rfl gL hbn (by simp) (by simp[Value.oneCell']) fun w7 hU=>?_
 have hbn7:bQ w7 bn [.int .u8 kind,.string name,.string value,.int .i64 p'] 50:=hU.blk
 have hbt7:=hU.aF hbt5 (by omega)
 have hvec7:=hvec5.upd hU (fun e=>by have:=(hvec.ge e).2;omega)
 have hE7:=hE5.upd hU (Nat.le_trans hE3.sz (by omega))
 all_goals
  refine Idx.mk ⟨bt,0,none⟩ rfl (by omega) (by omega) ?_
  refine iM (k:=k) gL hbt7 (by omega) fun w8 hU8=>?_
  have hbn8:=hU8.aF hbn7 (by omega)
  have hJ:MgJ w w8 bt k t.length s (.slice ov s.out.length cv):=⟨hE7.upd hU8 (by omega),hok,hU8.blk,hvec7.upd hU8 nvt,nvt⟩
  refine Load.here (hbn8.cells.one rfl) ?_
  refine aK.bB (fun k4=>?_) (fun k4=>?_)
  rotate_left
  ·have ha:gJ t k=false:=by simp[gJ,hnd,k4]
   repeat (first|refine gA ?_|refine gB ?_|refine gC ?_)
   refine Cond.no ?_
   refine Load.here (hbn8.cells.all' rfl) ?_
   refine aG.mk _ _ (aY _ _ _ _ _) ?_
   have hnw:bO w8 w8.heap.size [.int .u8 kind,.string name,.string value,.int .i64 p'] 50 (w8.alloc (.cells #[.int .u8 kind,.string name,.string value,.int .i64 p'] 50)):=⟨rfl,rfl⟩
   refine bD.append bI w.heap.size (s.out.map Nd.cells) [Nd.cells ⟨kind,name,value,p'⟩] (hJ.vec.ext hnw.ext) (aT hnw) (by intro y hy;rw[List.mem_singleton.1 hy];exact⟨rfl,Nd.cells_one _⟩)
    (by simp;omega) (by simp;omega) (Nat.le_trans hJ.ext.sz hnw.ext.sz) fun v' wz hva har=>?_
   refine Ar.i64 (by omega) ?_
   exact⟨(k+1,v'),⟨by simp only;omega,by simp only;rw[hms,if_neg (by simp[ha]),if_neg (by simp[ha])];exact hJ.app hwk hp' hwn hvl hnw hva har⟩,by simp only;omega,rfl,rfl,rfl,rfl,trivial⟩
  repeat (first|refine gA ?_|refine gB ?_|refine gC ?_)
  refine aA.mk _ (end_con _ t k w8 (ht.ext hJ.ext) hord hkl) ?_
  rintro ve w9 ⟨⟨e,rfl,he⟩,hw⟩
  have hw':=hw.symm
  subst hw'
  repeat (first|refine gA ?_|refine gB ?_|refine gC ?_)
  refine Ar.aM (k+1) (by omega) (by omega) ?_
  repeat (first|refine gA ?_|refine gB ?_|refine gC ?_)
  refine Cond.dec (fun k5=>?_) (fun k5=>?_)
  rotate_left
  ·have ha:gJ t k=false:=Bool.eq_false_iff.2 fun h=>k5 ((he.2 ((alone_t t k).1 h).2).trans (by omega))
   refine Load.here (hbn8.cells.all' rfl) ?_
   refine aG.mk _ _ (aY _ _ _ _ _) ?_
   have hnw:bO w8 w8.heap.size [.int .u8 kind,.string name,.string value,.int .i64 p'] 50 (w8.alloc (.cells #[.int .u8 kind,.string name,.string value,.int .i64 p'] 50)):=⟨rfl,rfl⟩
   refine bD.append bI w.heap.size (s.out.map Nd.cells) [Nd.cells ⟨kind,name,value,p'⟩] (hJ.vec.ext hnw.ext) (aT hnw) (by intro y hy;rw[List.mem_singleton.1 hy];exact⟨rfl,Nd.cells_one _⟩)
    (by simp;omega) (by simp;omega) (Nat.le_trans hJ.ext.sz hnw.ext.sz) fun v' wz hva har=>?_
   refine Ar.i64 (by omega) ?_
   exact⟨(k+1,v'),⟨by simp only;omega,by simp only;rw[hms,if_neg (by simp[ha]),if_neg (by simp[ha])];exact hJ.app hwk hp' hwn hvl hnw hva har⟩,by simp only;omega,rfl,rfl,rfl,rfl,trivial⟩
  have ha:gJ t k=true:=(alone_t t k).2 ⟨by rw[hnd];exact k4,he.1 (by omega)⟩
  refine Load.here (hbn8.cells.one rfl) ?_
  refine Cond.dec (fun v0=>?_) (fun v0=>?_)
  ·refine Ar.i64 (by omega) ?_
   exact⟨(k+1,.slice ov s.out.length cv),⟨by simp only;omega,by simp only;rw[hms,if_pos ⟨ha,v0⟩];exact hJ.same⟩,by simp only;omega,rfl,rfl,rfl,rfl,trivial⟩
  have v0':¬value=aP:=v0
  refine Ar.i64 (by omega) ?_
  obtain⟨L,hL⟩:∃L,L=qD s.out p' s.out.length:=⟨_,rfl⟩
  have hLb:=lastF_le s.out p' s.out.length
  rw[←hL]at hLb
  refine aH.joinAt 2 (X:=Nat × Int) (fun x=>[(0,.slice o t.length c),(3,.slice ov s.out.length cv),(4,.slice (some ⟨bt,0,none⟩) t.length t.length),(5,.int .i64 k),(6,.pointer (some ⟨bn,0,none⟩)),(7,.int .i64 x.2),(8,.int .i64 ((x.1:Int)-1))])
   (fun x w'=>Ext w8 w'∧x.1≤s.out.length∧((x.2=-1∧L=qD s.out p' x.1)∨(0≤x.2∧L=x.2))) (fun x=>x.1) (s.out.length,-1)
   (Y:=Unit) (fun _=>[(0,.slice o t.length c),(3,.slice ov s.out.length cv),(4,.slice (some ⟨bt,0,none⟩) t.length t.length),(5,.int .i64 k),(6,.pointer (some ⟨bn,0,none⟩)),(7,.int .i64 L)]) (fun _ w'=>Ext w8 w') ⟨Ext.refl _,Nat.le_refl _,.inl ⟨rfl,hL⟩⟩ ⟨rfl,rfl,rfl,rfl,rfl,rfl,rfl,trivial⟩ ?_ ?_
  ·rintro⟨m,l⟩ wa ⟨hEa,hm,hcs⟩
   simp only at hm hcs ⊢
   have hJa:=hJ.on hEa
   have hbna:=hbn8.ext hEa
   refine Load.here (hbna.cells.one rfl) ?_
   refine aK.bB (fun q1=>?_) (fun q1=>?_)
   ·obtain⟨j,rfl⟩:∃j,m=j+1:=⟨m-1,by omega⟩
    have ej:((j+1:Nat):Int)-1=j:=by omega
    rw[ej]at q1 ⊢
    repeat (first|refine gA ?_|refine gB ?_|refine gC ?_)
    refine Cond.dec (fun q2=>?_) (fun q2=>?_)
    ·rcases hcs with ⟨hl1,hL1⟩|⟨hl1,-⟩
     rotate_left
     ·omega
     subst hl1
     have hjl:j<s.out.length:=by omega
     have hndj:=eT hjl
     have hEd:=Ext.drew wa
     obtain⟨b,hb,hcb⟩:=(hJa.vec.ext hEd).sl.el _ _ _ rfl j (s.out[j]).cells (by rw[List.getElem?_map,List.getElem?_eq_getElem hjl];rfl)
     have hst:qD s.out p' (j+1)=if(s.out[j]).parent=p'∧(s.out[j]).kind≠3 then(j:Int)else qD s.out p' j:=by
      simp only[qD]
      rw[if_pos (by omega),hndj]
     have hbnd:=hbna.ext hEd
     have hEa2:=hEa.trans hEd
     subst hb
     refine aQ.mk aB mixed (allT 0 16) [] (by kernel_rfl) (fun w'=>w'=wa.drew) rfl ?_
     refine Idx.mk b rfl (by omega) (by omega) ?_
     refine Load.here (hcb.one (k:=3) rfl) ?_
     refine Load.here (hbnd.cells.one rfl) ?_
     refine aK.bB (fun q3=>?_) (fun q3=>?_)
     ·repeat (first|refine gA ?_|refine gB ?_|refine gC ?_)
      refine Idx.mk b rfl (by omega) (by omega) ?_
      repeat (first|refine gA ?_|refine gB ?_|refine gC ?_)
      refine Load.here (hcb.one (k:=0) rfl) ?_
      repeat (first|refine gA ?_|refine gB ?_|refine gC ?_)
      refine Cond.dH (fun q4=>?_) (fun q4=>?_)
      ·refine Ar.i64 (by omega) ?_
       exact⟨(j,(j:Int)),⟨hEa2,by simp only;omega,.inr ⟨by simp only;omega,by rw[hL1,hst,if_pos ⟨q3,q4⟩]⟩⟩,by simp only;omega,rfl,rfl,rfl,rfl,rfl,rfl,rfl,trivial⟩
      ·refine Ar.i64 (by omega) ?_
       exact⟨(j,-1),⟨hEa2,by simp only;omega,.inl ⟨rfl,by rw[hL1,hst,if_neg (fun h=>h.2 q4)]⟩⟩,by simp only;omega,rfl,rfl,rfl,rfl,rfl,rfl,rfl,trivial⟩
     ·repeat (first|refine gA ?_|refine gB ?_|refine gC ?_)
      refine Cond.no ?_
      refine Ar.i64 (by omega) ?_
      exact⟨(j,-1),⟨hEa2,by simp only;omega,.inl ⟨rfl,by rw[hL1,hst,if_neg (fun h=>q3 h.1)]⟩⟩,by simp only;omega,rfl,rfl,rfl,rfl,rfl,rfl,rfl,trivial⟩
    ·rcases hcs with ⟨hl1,-⟩|⟨-,hL1⟩
     ·omega
     ·refine⟨(),hEa,rfl,rfl,rfl,rfl,rfl,?_,trivial⟩
      rw[hL1]
      rfl
   ·repeat (first|refine gA ?_|refine gB ?_|refine gC ?_)
    refine Cond.no ?_
    refine⟨(),hEa,rfl,rfl,rfl,rfl,rfl,?_,trivial⟩
    have hLl:L=l:=by
     rcases hcs with ⟨hl1,hL1⟩|⟨-,hL1⟩
     ·rw[hL1,hl1]
      cases m with
      | zero=>rfl
      | succ j=>simp only[qD];rw[if_neg (by omega)]
     ·exact hL1
    rw[hLl]
    rfl
  rintro _ wa hEa
  have hJa:=hJ.on hEa
  have hbna:=hbn8.ext hEa
  have hj0:joinsR s.out p'=(decide (0≤L)&&(decide ((nd s.out L).kind=4)&&decide (L=(s.out.length:Int)-1))):=by unfold joinsR;rw[←hL]
  have hend:∀(wb:World),MgJ w wb bt k t.length s (.slice ov s.out.length cv)→joinsR s.out p'=false→∀(wz:World) (b:Nat) (v':Value) (hnw:bO wb b (Nd.cells ⟨kind,name,value,p'⟩) 50 wz) (wy:World),Vec wy w.heap.size 50 4 v' (s.out.map Nd.cells++[Nd.cells ⟨kind,name,value,p'⟩])→iO wz (.slice ov s.out.length cv) wy v'→MgI w wy bt (k+1) t.length (wN t (k+1)) v':=fun wb hJb hj wz b v' hnw wy hva har=>by
   rw[hms,if_neg (by simp[v0']),if_neg (by simp[hj])]
   exact hJb.app hwk hp' hwn hvl hnw hva har
  refine aK.bB (fun q1=>?_) (fun q1=>?_)
  rotate_left
  ·repeat (first|refine gA ?_|refine gB ?_|refine gC ?_)
   refine Cond.no ?_
   refine Load.here (hbna.cells.all' rfl) ?_
   refine aG.mk _ _ (aY _ _ _ _ _) ?_
   have hnw:bO wa wa.heap.size (Nd.cells ⟨kind,name,value,p'⟩) 50 (wa.alloc (.cells #[.int .u8 kind,.string name,.string value,.int .i64 p'] 50)):=⟨rfl,rfl⟩
   refine bD.append bI w.heap.size (s.out.map Nd.cells) [Nd.cells ⟨kind,name,value,p'⟩] (hJa.vec.ext hnw.ext) (aT hnw) (by intro y hy;rw[List.mem_singleton.1 hy];exact⟨rfl,Nd.cells_one _⟩)
    (by simp;omega) (by simp;omega) (Nat.le_trans hJa.ext.sz hnw.ext.sz) fun v' wz hva har=>?_
   refine Ar.i64 (by omega) ?_
   exact⟨(k+1,v'),⟨by simp only;omega,hend _ hJa (by rw[hj0,decide_eq_false q1];rfl) _ _ _ hnw _ hva har⟩,by simp only;omega,rfl,rfl,rfl,rfl,trivial⟩
  obtain⟨j,rfl⟩:∃j:Nat,L=j:=⟨L.toNat,by omega⟩
  have hjl:j<s.out.length:=by omega
  have hndj:=eT hjl
  obtain⟨b,hb,hcb⟩:=hJa.vec.sl.el _ _ _ rfl j (s.out[j]).cells (by rw[List.getElem?_map,List.getElem?_eq_getElem hjl];rfl)
  repeat (first|refine gA ?_|refine gB ?_|refine gC ?_)
  refine Idx.mk b hb (by omega) (by omega) ?_
  repeat (first|refine gA ?_|refine gB ?_|refine gC ?_)
  refine Load.here (hcb.one (k:=0) rfl) ?_
  repeat (first|refine gA ?_|refine gB ?_|refine gC ?_)
  refine aK.bB (fun q2=>?_) (fun q2=>?_)
  rotate_left
  ·repeat (first|refine gA ?_|refine gB ?_|refine gC ?_)
   refine Cond.no ?_
   refine Load.here (hbna.cells.all' rfl) ?_
   refine aG.mk _ _ (aY _ _ _ _ _) ?_
   have hnw:bO wa wa.heap.size (Nd.cells ⟨kind,name,value,p'⟩) 50 (wa.alloc (.cells #[.int .u8 kind,.string name,.string value,.int .i64 p'] 50)):=⟨rfl,rfl⟩
   refine bD.append bI w.heap.size (s.out.map Nd.cells) [Nd.cells ⟨kind,name,value,p'⟩] (hJa.vec.ext hnw.ext) (aT hnw) (by intro y hy;rw[List.mem_singleton.1 hy];exact⟨rfl,Nd.cells_one _⟩)
    (by simp;omega) (by simp;omega) (Nat.le_trans hJa.ext.sz hnw.ext.sz) fun v' wz hva har=>?_
   refine Ar.i64 (by omega) ?_
   exact⟨(k+1,v'),⟨by simp only;omega,hend _ hJa (by rw[hj0,hndj,decide_eq_false q2];simp) _ _ _ hnw _ hva har⟩,by simp only;omega,rfl,rfl,rfl,rfl,trivial⟩
  repeat (first|refine gA ?_|refine gB ?_|refine gC ?_)
  refine Ar.i64 (by omega) ?_
  repeat (first|refine gA ?_|refine gB ?_|refine gC ?_)
  refine Cond.dec (fun q3=>?_) (fun q3=>?_)
  rotate_left
  ·refine Load.here (hbna.cells.all' rfl) ?_
   refine aG.mk _ _ (aY _ _ _ _ _) ?_
   have hnw:bO wa wa.heap.size (Nd.cells ⟨kind,name,value,p'⟩) 50 (wa.alloc (.cells #[.int .u8 kind,.string name,.string value,.int .i64 p'] 50)):=⟨rfl,rfl⟩
   refine bD.append bI w.heap.size (s.out.map Nd.cells) [Nd.cells ⟨kind,name,value,p'⟩] (hJa.vec.ext hnw.ext) (aT hnw) (by intro y hy;rw[List.mem_singleton.1 hy];exact⟨rfl,Nd.cells_one _⟩)
    (by simp;omega) (by simp;omega) (Nat.le_trans hJa.ext.sz hnw.ext.sz) fun v' wz hva har=>?_
   refine Ar.i64 (by omega) ?_
   exact⟨(k+1,v'),⟨by simp only;omega,hend _ hJa (by rw[hj0,decide_eq_false q3];simp) _ _ _ hnw _ hva har⟩,by simp only;omega,rfl,rfl,rfl,rfl,trivial⟩
  have hj:joinsR s.out p'=true:=by rw[hj0,hndj,decide_eq_true q1,decide_eq_true q2,decide_eq_true q3];rfl
  have hlo:0<s.out.length:=by omega
  have hjj:j=s.out.length-1:=by omega
  have hlast:s.out[j]=s.out.getD (s.out.length-1) nd0:=by rw[←hjj,List.getD_eq_getElem?_getD,List.getElem?_eq_getElem hjl];rfl
  clear hcb
  have hil:j<(s.out.map Nd.cells).length:=by simp;omega
  have hEd:=Ext.drew wa
  have hJd:=hJa.on hEd
  obtain⟨g,cp,cur,hgv,hg1,hg2,hgb,hgl,hgo,hput⟩:=hJd.vec.put hil [.string ((s.out[j]).value++value)] (off:=2) (by simp)
  simp only[Value.slice.injEq]at hgv
  obtain⟨rfl,_,rfl⟩:=hgv
  obtain⟨a,ha1,hca⟩:=hJd.vec.sl.el _ _ _ rfl j (s.out[j]).cells (by rw[List.getElem?_map,List.getElem?_eq_getElem hjl];rfl)
  cases ha1
  have hwl:=(hok.wf _ (List.getElem_mem hjl)).2.2.2.2.2
  refine aQ.mk aB mixed (allT 0 12++[(12,false)]) [12] (by kernel_rfl) (fun w'=>w'=World.drew wa) rfl ?_
  refine Idx.mk ⟨g,0,none⟩ rfl (by omega) (by omega) ?_
  refine Load.here (hca.one (k:=2) rfl) ?_
  refine Load.here ((hbna.ext hEd).cells.one rfl) ?_
  refine Need.mk (by omega) ?_
  refine Idx.mk ⟨g,0,none⟩ rfl (by omega) (by omega) ?_
  refine bA.store g (j*4+2) cur [.string ((s.out[j]).value++value)] 50 (by rw[bW,bW,Nat.zero_add];rfl) rfl (by kernel_rfl) hgb hgl (by simp[Value.oneCell']) fun wz hU=>?_
  have hva:=hput wz hU
  have hmap:(s.out.map Nd.cells).set j (splice (s.out.map Nd.cells)[j] 2 [.string ((s.out[j]).value++value)])=(s.out.set (s.out.length-1) (lF (s.out.getD (s.out.length-1) nd0) value)).map Nd.cells:=by
   rw[List.map_set,←hlast,←hjj]
   congr 1
   rw[List.getElem_map]
   rfl
  rw[hmap]at hva
  refine Ar.i64 (by omega) ?_
  have hgt:g≠bt:=fun e=>nvt (by rw[hgo,e])
  refine⟨(k+1,.slice (some ⟨g,0,none⟩) s.out.length cv),⟨by simp only;omega,?_⟩,by simp only;omega,rfl,rfl,rfl,rfl,trivial⟩
  simp only
  rw[hms,if_neg (by simp[v0']),if_pos ⟨ha,hj⟩]
  exact⟨hJd.ext.upd hU hg1,hok.join hlo value hvl,hU.aF hJd.blk (Ne.symm hgt),by simpa using hva,nvt⟩
def rTwI(t:List Nd)(i:Nat):Nat→Bool
 | 0=>false
 | k+1=>if(nd t (i:Int)).parent<(k:Int)∧(nd t (i:Int)).kind=3∧(nd t (k:Int)).kind=3 then decide ((nd t (k:Int)).name=(nd t (i:Int)).name)||rTwI t i k else false
def rTwN(t:List Nd):Bool:=(List.range t.length).any fun i=>rTwI t i i
def Par(l:List Nd):Prop:=∀x∈l,-1≤x.parent
theorem rTwice_con(v:Value)(t:List Nd)(w:World)(ht:aJ w v t)(hpm:Par t):bV Tryz.prog 120 #[v] w (fun v' w'=>v'=.bool (rTwN t)∧Ext w w'):=by
 have hml:maxLen=9223372036854775807:=rfl
 have ht0:=ht
 obtain⟨o,c,rfl,h1,h2,h3,h4⟩:=ht0.open_
 refine enter aB Tryz.func120 (aV rfl) rfl rfl rfl ?_
 refine aH.mk (X:=Nat) (fun i=>[(0,.slice o t.length c),(3,.int .i64 i)]) (fun i w'=>Ext w w'∧i≤t.length∧∀j,j<i→rTwI t j j=false) (fun i=>t.length-i) 0 ⟨Ext.refl _,Nat.zero_le _,fun j h=>absurd h (Nat.not_lt_zero _)⟩ ⟨rfl,rfl,trivial⟩ ?_
 rintro i w1 ⟨hE,hi,hb⟩
 refine Cond.dec (fun g1=>?_) (fun g1=>?_)
 ·have hil:i<t.length:=by omega
  have hnd:=eT hil
  have hp:=hpm _ (List.getElem_mem hil)
  refine Ar.i64 (by omega) ?_
  refine aH.mk (X:=Nat) (fun m=>[(0,.slice o t.length c),(3,.int .i64 i),(4,.int .i64 ((m:Int)-1))]) (fun m w'=>Ext w w'∧m≤i∧rTwI t i i=rTwI t i m) (fun m=>m) i ⟨hE,Nat.le_refl _,rfl⟩ ⟨rfl,rfl,rfl,trivial⟩ ?_
  rintro m w2 ⟨hE2,hm,hr⟩
  obtain⟨a,ha,hci⟩:=h4 w2 hE2 i hil
  subst ha
  have next:rTwI t i m=false→∃x':Nat,(Ext w w2∧x'≤t.length∧∀j,j<x'→rTwI t j j=false)∧t.length-x'<t.length-i∧x'=i+1:=fun h=>⟨i+1,⟨hE2,by omega,fun j hj=>by
   by_cases e:j=i
   ·subst e;rw[hr,h]
   ·exact hb j (by omega)⟩,by omega,rfl⟩
  refine Idx.mk a rfl (by omega) (by omega) ?_
  refine Load.here (hci.one (k:=3) rfl) ?_
  refine aK.bB (fun g2=>?_) (fun g2=>?_)
  ·obtain⟨k,rfl⟩:∃k,m=k+1:=⟨m-1,by omega⟩
   have ek:((k+1:Nat):Int)-1=k:=by omega
   rw[ek]at g2 ⊢
   have hkl:k<t.length:=by omega
   obtain⟨a',ha',hck⟩:=h4 w2 hE2 k hkl
   cases ha'
   have hst:rTwI t i (k+1)=if(t[i]).parent<(k:Int)∧(t[i]).kind=3∧(t[k]).kind=3 then decide ((t[k]).name=(t[i]).name)||rTwI t i k else false:=by
    simp only[rTwI]
    rw[hnd,eT hkl]
   repeat (first|refine gA ?_|refine gB ?_|refine gC ?_)
   refine Idx.mk a rfl (by omega) (by omega) ?_
   repeat (first|refine gA ?_|refine gB ?_|refine gC ?_)
   refine Load.here (hci.one (k:=0) rfl) ?_
   repeat (first|refine gA ?_|refine gB ?_|refine gC ?_)
   refine aK.bB (fun g3=>?_) (fun g3=>?_)
   ·repeat (first|refine gA ?_|refine gB ?_|refine gC ?_)
    refine Idx.mk a rfl (by omega) (by omega) ?_
    repeat (first|refine gA ?_|refine gB ?_|refine gC ?_)
    refine Load.here (hck.one (k:=0) rfl) ?_
    repeat (first|refine gA ?_|refine gB ?_|refine gC ?_)
    refine Cond.dec (fun g4=>?_) (fun g4=>?_)
    ·rw[if_pos ⟨by omega,g3,g4⟩]at hst
     refine aQ.mk aB mixed (allT 0 11) [] (by kernel_rfl) (fun w'=>w'=w2.drew) rfl ?_
     have hEd:=hE2.trans (Ext.drew w2)
     obtain⟨a',ha',hcid⟩:=h4 w2.drew hEd i hil
     cases ha'
     obtain⟨a',ha',hckd⟩:=h4 w2.drew hEd k hkl
     cases ha'
     refine Idx.mk a rfl (by omega) (by omega) ?_
     refine Load.here (hckd.one (k:=1) rfl) ?_
     refine Idx.mk a rfl (by omega) (by omega) ?_
     refine Load.here (hcid.one (k:=1) rfl) ?_
     refine Cond.dec (fun g5=>?_) (fun g5=>?_)
     ·refine And.intro ?_ hEd
      have:rTwN t=true:=List.any_eq_true.2 ⟨i,List.mem_range.2 hil,by rw[hr,hst,decide_eq_true g5];rfl⟩
      rw[this]
      rfl
     ·refine Ar.i64 (by omega) ?_
      refine⟨k,⟨hEd,by omega,?_⟩,by omega,rfl,rfl,rfl,trivial⟩
      rw[hr,hst,decide_eq_false g5]
      rfl
    ·refine Ar.aM (i+1) (by omega) (by omega) ?_
     obtain⟨x,a1,a2,rfl⟩:=next (by rw[hst,if_neg (fun h=>g4 h.2.2)])
     exact⟨i+1,a1,a2,rfl,rfl,trivial⟩
   ·repeat (first|refine gA ?_|refine gB ?_|refine gC ?_)
    refine Cond.no ?_
    refine Ar.aM (i+1) (by omega) (by omega) ?_
    obtain⟨x,a1,a2,rfl⟩:=next (by rw[hst,if_neg (fun h=>g3 h.2.1)])
    exact⟨i+1,a1,a2,rfl,rfl,trivial⟩
  ·repeat (first|refine gA ?_|refine gB ?_|refine gC ?_)
   refine Cond.no ?_
   refine Ar.aM (i+1) (by omega) (by omega) ?_
   obtain⟨x,a1,a2,rfl⟩:=next (by
    cases m with
    | zero=>rfl
    | succ k=>simp only[rTwI];rw[if_neg (fun h=>g2 (by rw[hnd]at h;omega))])
   exact⟨i+1,a1,a2,rfl,rfl,trivial⟩
 ·refine And.intro ?_ hE
  have:rTwN t=false:=List.any_eq_false.2 fun j hj=>by rw[hb j (by have:=List.mem_range.1 hj;omega)];simp
  rw[this]
  rfl
def kG(t:List Nd)(l:List Pt):Int × List Nd:=
 if dU t l≠0 then(dU t l,[])
 else
  let S:=iN (dI [] t).S (dA l)
  if rTwN (dF S)=true then(282,[])
  else if 16384<(dF S).length then(3,[])
  else if eG (gQ (dF S)) true≠0 then(eG (gQ (dF S)) true,[])
  else(0,gQ (dF S))
theorem Par.shift{l:List Nd}(h:Par l)(k:Nat):Par (l.map (aS (k:Int))):=fun x hx=>by
 obtain⟨y,hy,rfl⟩:=List.mem_map.1 hx
 have:=h y hy
 unfold aS
 split
 ·simp only[withParent];omega
 ·exact this
theorem Par.app{a b:List Nd}(ha:Par a)(hb:Par b):Par (a++b):=fun x hx=>by
 rcases List.mem_append.1 hx with h|h
 ·exact ha x h
 ·exact hb x h
theorem vW{l:List Nd}(h:aU l=true):Par l∧Par (bL l)∧Par (bC l):=by
 have hA:Par (bL l):=fun x hx=>by have:=(uE (uU l x hx)).1;omega
 have hR:Par (iE l):=fun x hx=>((frag_bounds (iK h).2.2).2 x hx).1
 refine⟨?_,hA,by rw[rY h];exact hR⟩
 rw[tF h]
 exact(by rw[←vU h];exact hA:Par (l.take (bR l))).app (hR.shift _)
theorem rests_par:∀(row:List Pt) (acc:List Nd),(∀q∈row,aU q.nodes=true)→Par acc→Par (fH acc row)
 | [],_,_,h=>h
 | q::r,acc,hs,h=>rests_par r _ (fun x hx=>hs x (List.mem_cons_of_mem _ hx)) (h.app ((vW (hs q List.mem_cons_self)).2.2.shift _))
theorem join_par{row:List Pt}(h:∀q∈row,aU q.nodes=true):Par (bJ row):=by
 unfold bJ
 refine Par.app (fun x hx=>?_) ((rests_par row [] h (fun x hx=>by cases hx)).shift _)
 unfold fA at hx
 obtain⟨l,hl,hxl⟩:=List.mem_flatten.1 hx
 obtain⟨q,hq,rfl⟩:=List.mem_map.1 hl
 exact(vW (h q hq)).2.1 x hxl
theorem merge_par{ps:List Pt}(hs:∀p∈ps,aU p.nodes=true):∀q∈dA ps,Par q.nodes:=fun q hq=>by
 unfold dA at hq
 rw[if_pos (List.all_eq_true.2 fun p hp=>hs p hp)]at hq
 obtain⟨out,ho,hqo⟩:=List.mem_flatten.1 hq
 obtain⟨row,hrow,rfl⟩:=List.mem_map.1 ho
 have hmem':∀x∈row,x∈ps:=fun x hx=>oI ((pQ hrow).1 x hx)
 cases row with
 | nil=>simp[dP]at hqo
 | cons p r=>
   have hp:=hmem' p List.mem_cons_self
   simp only[dP]at hqo
   split at hqo
   ·exact(vW (hs q (hmem' q hqo))).1
   ·split at hqo
    ·rw[List.mem_singleton.1 hqo]
     exact(vW (hs p hp)).1
    ·rw[List.mem_singleton.1 hqo]
     exact join_par (row:=p::r) (fun x hx=>hs x (hmem' x hx))
theorem rows_par(S:List PN):Par (dF S):=fun y hy=>by
 obtain⟨j,s,q,h1,rfl,h3⟩:=tg_mem S _ _ _ _ y hy
 simp only[withParent]
 omega
theorem run_build159(w:World):(Instr.build 159 #[]).run Tryz.prog w=.ok (.agg #[.slice none 0 0,.slice none 0 0,.slice none 0 0]) w:=by kernel_rfl
set_option maxHeartbeats 3200000 in
theorem rApply_con(vt vl:Value)(t:List Nd)(l:List Pt)(w:World)(ht:aJ w vt t)(hl:PartsAt w vl l)(hll:l.length≤100)(hnl:∀p∈l,p.nodes.length≤2000)(hkt:eG t true=0→∀x∈t,1≤x.kind∧x.kind≤6) :
  bV Tryz.prog 67 #[vt,vl] w (fun v w'=>∃vo,v=.tuple #[vo,.int .i64 (kG t l).1]∧Vec w' w.heap.size 50 4 vo ((kG t l).2.map Nd.cells)∧aJ w' vo (kG t l).2∧Ext w w'):=by
 have hml:maxLen=9223372036854775807:=rfl
 have hTg:∀p∈l,TgOk p:=fun p hp=>by
  obtain⟨rs,hsl,hpts⟩:=hl.ex
  obtain⟨i,hi,rfl⟩:=List.mem_iff_getElem.1 hp
  exact(hpts.2 i _ _ (List.getElem?_eq_getElem (by rw[hpts.1];exact hi)) (List.getElem?_eq_getElem hi)).wtarget
 have fail:∀(e:Int) (w':World),Ext w w'→kG t l=(e,[])→∃vo,Value.tuple #[.slice none 0 0,.int .i64 e]=.tuple #[vo,.int .i64 (kG t l).1]∧Vec w' w.heap.size 50 4 vo ((kG t l).2.map Nd.cells)∧aJ w' vo (kG t l).2∧Ext w w':=fun e w' hE h=>by
  rw[h]
  exact⟨_,rfl,Vec.nil _ _ _ _,⟨eO.nil _ _,by simp,by simp⟩,hE⟩
 refine enter aB Tryz.func67 (aV rfl) rfl rfl rfl ?_
 refine aA.mk _ (yL vt vl t l w ht hl hkt (fun p hp=>Nat.le_trans (hnl p hp) (by decide))) ?_
 rintro v w1 ⟨rfl,hE1⟩
 refine Cond.dH (fun g1=>?_) (fun g1=>?_)
 ·exact fail _ w1 hE1 (by simp only[kG];rw[if_pos g1])
 obtain⟨c1,c2,c3⟩:=uG g1
 have htl:=(rE c1).1
 refine aG.mk _ _ (run_build159 _) ?_
 refine aG.box [.slice none 0 0,.slice none 0 0,.slice none 0 0] rfl fun wb w2 n2=>?_
 have hE2:=hE1.trans n2.ext
 have hwb:=n2.b_eq
 have hW2:iB w2 w1.heap.size wb (fun _=>4) [] (.slice none 0 0) (.slice none 0 0) (.slice none 0 0) [] []:=
  ⟨n2.blk,by omega,⟨Vec.nil _ _ _ _,fun g hg=>by cases hg⟩,⟨Vec.nil _ _ _ _,fun g hg=>by cases hg⟩,⟨Vec.nil _ _ _ _,fun g hg=>by cases hg⟩,rfl,rfl,fun i v s h=>by simp at h,fun i v s h=>by simp at h⟩
 have hord:=nG.of_ord (oU c1)
 have hpt:∀x∈t,-1≤x.parent:=fun x hx=>by
  obtain⟨i,hi,rfl⟩:=List.mem_iff_getElem.1 hx
  have:=(oU c1 i hi).2
  rwa [eT hi]at this
 refine aA.mk _ (row_con wb w1.heap.size (fun _=>4) [] _ _ _ vt [] [] t w2 hW2 (by simp) n2.ext.sz (fun w' own' _ hC=>ht.ext (hE2.cZ (hC.below (B:=w1.heap.size) n2.ext.sz (fun k hk=>hk)) hE1.sz)) (by omega) hord hpt) ?_
 rintro v w3 ⟨own3,va,vk,rfl,hR⟩
 have hE3:Ext w w3:=hE2.cZ (hR.ch.below (B:=w1.heap.size) n2.ext.sz (fun k hk=>hk)) hE1.sz
 have z1:=hE1.sz
 have z2:=n2.ext.sz
 have z3:=hR.ch.size
 refine aA.mk _ (rMerge_con vl l w3 (hl.ext hE3) (by omega) hnl) ?_
 rintro v4 w4 ⟨-,hE4,O,hvO,hPO,hO⟩
 rw[refMerge_eq hTg]at hO
 obtain⟨qs,hqs⟩:∃qs,qs=dA l:=⟨_,rfl⟩
 obtain⟨S0,hS0⟩:∃S0,S0=(dI [] t).S:=⟨_,rfl⟩
 have hap:kG t l=(let S:=iN S0 qs
   if rTwN (dF S)=true then(282,[])
   else if 16384<(dF S).length then(3,[])
   else if eG (gQ (dF S)) true≠0 then(eG (gQ (dF S)) true,[])
   else(0,gQ (dF S))):=by
  simp only[kG]
  rw[if_neg (by rw[g1];simp),hS0,hqs]
 have hqlen:qs.length≤l.length:=by rw[hqs];exact mergeP_len l
 have hOl:O.length=qs.length:=by rw[hqs,←hO,List.length_map]
 have hOq:∀(k:Nat) (h:k<O.length),(O[k]).2∈dA l:=fun k h=>by rw[←hO];exact List.mem_map.2 ⟨_,List.getElem_mem h,rfl⟩
 have hsp:∀p∈l,aU p.nodes=true:=fun p hp=>alone_split (c3 p hp).1
 have hgood:∀(k:Nat) (h:k<O.length),Good S0 (100*2000) (O[k]).2:=fun k h=>by
  have hP:=hPO _ (List.getElem_mem h)
  have:=good_merged g1 hnl (hOq k h) hP.wf hP.wtext
  rw[←hS0]at this
  exact⟨this.tgt,this.rows,this.par,this.text,this.name,this.up,Nat.le_trans this.len (Nat.mul_le_mul_right _ hll)⟩
 have hS0l:S0.length=t.length:=by rw[hS0,mM];simp
 obtain⟨nv,av,kv,A,K,hW3⟩:=hR.work
 rw[←hS0]at hW3
 have hX4:=bT.extN (q0:=4) (own:=own3) hE4
 have hW4:=hW3.keep hX4 (by decide)
 obtain⟨own4,hown4⟩:∃own4,own4=gK own3 w3.heap.size 4:=⟨_,rfl⟩
 rw[←hown4]at hW4
 have h4t:∀g,w3.heap.size≤g→own4 g=4:=fun g hg=>by rw[hown4];unfold gK;rw[if_neg (by omega)]
 have hHO:Held own4 T0 w4 w3.heap.size 41 4 4 v4 (dX O):=⟨hvO,fun g hg=>⟨h4t g (hvO.ge hg).1,trivial⟩⟩
 have hHN:∀y∈O,Held own4 T0 w4 w3.heap.size 50 4 4 y.1.nodes (y.2.nodes.map Nd.cells):=fun y hy=>⟨(hPO y hy).nodes,fun g hg=>⟨h4t g ((hPO y hy).nodes.ge hg).1,trivial⟩⟩
 obtain⟨oo,oc,hoe,o1,o2,o3,-,-⟩:=hvO.shape
 rw[dL]at hoe
 subst hoe
 have hM0:After S0 (iN S0 (qs.take 0)) 0 (100*2000):=⟨by rw[hS0];exact tree_SI c1 ht.wf,Keeps.refl _ _,Nat.le_refl _,Nat.le_add_right _ _⟩
 have z4:=hE4.sz
 refine aH.mk (X:=Nat × (Nat→Nat)) (fun x=>[(7,.pointer (some ⟨wb,0,none⟩)),(8,.slice oo O.length oc),(9,.int .i64 x.1)])
  (fun x w'=>x.1≤O.length∧WorkTo w4 w' w1.heap.size wb own4 x.2 (iN S0 (qs.take x.1))∧After S0 (iN S0 (qs.take x.1)) x.1 (100*2000)) (fun x=>O.length-x.1) (0,own4)
  ⟨Nat.zero_le _,⟨⟨_,_,_,_,_,hW4⟩,.refl _ _,.refl _ _⟩,hM0⟩ ⟨rfl,rfl,rfl,trivial⟩ ?_
 rintro⟨k,own5⟩ w5 ⟨hk,hD,hI⟩
 simp only at hk hD hI ⊢
 have z5:=hD.ch.size
 obtain⟨nv5,av5,kv5,A5,K5,hW5⟩:=hD.work
 refine Cond.dec (fun g2=>?_) (fun g2=>?_)
 ·have hkl:k<O.length:=by omega
  have hgd:=hgood k hkl
  have hP:=hPO _ (List.getElem_mem hkl)
  have hHk:=hD.keep _ _ _ _ _ (by decide) (hHN _ (List.getElem_mem hkl))
  have hH5:=hD.keep _ _ _ _ _ (by decide) hHO
  have hq:qs[k]? = some (O[k]).2:=by rw[hqs,←hO,List.getElem?_map,List.getElem?_eq_getElem hkl];rfl
  have htk:iN S0 (qs.take (k+1))=tQ (iN S0 (qs.take k)) (O[k]).2 (O[k]).2.target.toNat:=by
   rw[List.take_add_one,hq,Option.toList_some,doAll_snoc]
  have hI':=hI.next hgd
  rw[←htk]at hI'
  have hpo:=hI.partOk hgd
  have hIl:=hI.len
  have hbound:(iN S0 (qs.take k)).length≤16384+100*(100*2000+1):=by
   have:k*(100*2000+1)≤100*(100*2000+1):=Nat.mul_le_mul_right _ (by omega)
   omega
  obtain⟨p,hp,e1,e2,e3⟩:=(merge_ok hsp hnl _ (hOq k hkl)).of
  have hk10:=mX (c3 p hp).1
  rw[←e1]at hk10
  have hpar:=merge_par hsp _ (hOq k hkl)
  have hgl:=hgd.len
  have htg:=hgd.tgt
  have hxt:(O[k]).2.target=((O[k]).2.target.toNat:Int):=by omega
  obtain⟨a,ha,hc⟩:=hH5.vec.sl.el _ _ _ rfl k (O[k]).1.cells (by unfold dX;rw[List.getElem?_map,List.getElem?_eq_getElem hkl];rfl)
  refine Idx.mk a ha (by omega) (by omega) ?_
  refine Load.here (hc.all' rfl) ?_
  refine aA.mk _ (do2_con wb w1.heap.size w3.heap.size (O[k]).2.target.toNat own5 _ nv5 av5 kv5 A5 K5 (O[k]).1 (O[k]).2 w5 hW5 hI.si (by omega) hpo hP.kind (hP.target.trans hxt) hxt hP.text hHk hP.wf hpar hk10 (by omega) (by omega) (by omega)) ?_
  rintro v w6 ⟨own6,hD6⟩
  rw[←htk]at hD6
  refine Ar.aM (k+1) (by omega) (by omega) ?_
  exact⟨(k+1,own6),⟨by show k+1≤_;omega,⟨hD6.work,hD.keep.trans hD6.keep,hD.ch.trans hD6.ch⟩,hI'⟩,by show O.length-(k+1)<O.length-k;omega,rfl,rfl,rfl,trivial⟩
 have hkl:qs.take k=qs:=by rw[show k=qs.length by omega,List.take_length]
 rw[hkl]at hW5 hI
 obtain⟨S,hS⟩:∃S,S=iN S0 qs:=⟨_,rfl⟩
 rw[←hS]at hW5 hI hap
 simp only at hap
 have hIl:=hI.len
 have hbound:S.length≤16384+100*(100*2000+1):=by
  have:k*(100*2000+1)≤100*(100*2000+1):=Nat.mul_le_mul_right _ (by omega)
  omega
 have ht0:=(u7 c1).1
 have hB5:Ext w w5:=(hE3.trans hE4).cZ (hD.ch.below (B:=w1.heap.size) (by omega) (fun k hk=>hk)) z1
 have hrl:=tg_le hI.si S.length 0 (-1) 0
 refine aA.mk _ (flat_con wb w1.heap.size own5 S nv5 av5 kv5 A5 K5 w5 hW5 hI.si.down (by omega) (by omega) S.length 0 (-1) [] w5 (.slice none 0 0) (by omega) (by omega) (Ext.refl _) (Vec.nil _ _ _ _) (by simp;omega)) ?_
 rintro v6 w6 ⟨hE6,hv6⟩
 rw[List.nil_append]at hv6
 have hE06:=hB5.trans hE6
 have hrw:=rows_wf hI.si (by omega)
 have hrows:tg S S.length 0 (-1) 0=dF S:=rfl
 rw[List.length_nil,hrows]at hv6
 rw[hrows]at hrl
 have hN6:=hv6.nodes (fun y hy=>(hrw y hy).1) (by omega)
 obtain⟨ro,rc,hre,-,-,-,-,-⟩:=hv6.shape
 rw[List.length_map]at hre
 subst hre
 refine aA.mk _ (rTwice_con _ (dF S) w6 hN6 (rows_par S)) ?_
 rintro v w7 ⟨rfl,hE7⟩
 have hE07:=hE06.trans hE7
 refine Cond.mk (fun g3=>?_) (fun g3=>?_)
 ·exact fail _ w7 hE07 (by rw[hap,if_pos g3])
 rw[if_neg (by rw[g3];simp)]at hap
 refine Cond.dec (fun g4=>?_) (fun g4=>?_)
 ·exact fail _ w7 hE07 (by rw[hap,if_pos (by omega)])
 rw[if_neg (by omega)]at hap
 refine aA.mk _ (rMergeN_con (dF S) _ w7 (hN6.ext hE7) (fun y hy=>(hrw y hy).2)) ?_
 rintro v8 w8 ⟨hv8,hN8,hE8⟩
 have hE08:=hE07.trans hE8
 refine aA.mk _ (rCheckT_con v8 (gQ (dF S)) w8 hN8) ?_
 rintro v w9 ⟨rfl,hE9⟩
 rw[rG]
 have hE09:=hE08.trans hE9
 refine Cond.dH (fun g5=>?_) (fun g5=>?_)
 ·exact fail _ w9 hE09 (by rw[hap,if_pos g5])
 rw[if_neg (by rw[g5];simp)]at hap
 rw[hap]
 have:=hE07.sz
 exact⟨v8,rfl,(hv8.ext hE9).dJ (by omega),hN8.ext hE9,hE09⟩
end Go.Proofs.YtelffdgcikceaaaGreatDoor
end
section
set_option maxRecDepth 100000
namespace Go.Proofs.YtelffdgcikceaaaGreatDoor
open Go.V
open Go.RowKit (Below)
def iF:List Nd:=[⟨1,⟨#[]⟩,⟨#[]⟩,-1⟩,⟨5,⟨#[]⟩,⟨#[99]⟩,0⟩,⟨2,⟨#[97]⟩,⟨#[]⟩,0⟩,⟨3,⟨#[120]⟩,⟨#[49]⟩,2⟩,⟨3,⟨#[121]⟩,⟨#[]⟩,2⟩,⟨4,⟨#[]⟩,⟨#[116]⟩,2⟩,⟨2,⟨#[98]⟩,⟨#[]⟩,2⟩,⟨4,⟨#[]⟩,⟨#[117]⟩,6⟩,⟨6,⟨#[112]⟩,⟨#[113]⟩,2⟩,⟨4,⟨#[]⟩,⟨#[118]⟩,2⟩]
def gD:List (List Nd):=[[],kS ⟨#[110]⟩,kT ⟨#[120]⟩,kT ⟨#[122]⟩,
 [⟨3,⟨#[122]⟩,⟨#[]⟩,-1⟩,⟨2,⟨#[101]⟩,⟨#[]⟩,-1⟩,⟨3,⟨#[122]⟩,⟨#[]⟩,1⟩,⟨4,⟨#[]⟩,⟨#[119]⟩,1⟩,⟨5,⟨#[]⟩,⟨#[]⟩,-1⟩],
 kS ⟨#[]⟩,kS ⟨#[110]⟩++kT ⟨#[120]⟩,[⟨1,⟨#[]⟩,⟨#[]⟩,-1⟩],[⟨3,⟨#[49]⟩,⟨#[]⟩,-1⟩],[⟨3,⟨#[122]⟩,⟨#[]⟩,-1⟩,⟨4,⟨#[]⟩,⟨#[119]⟩,0⟩],kT ⟨#[122]⟩++kT ⟨#[122]⟩]
def mR:List ByteArray:=[⟨#[]⟩,⟨#[107]⟩,⟨#[120,109,108]⟩,⟨#[97,45,45,98]⟩,⟨#[97,45]⟩,⟨#[63,62]⟩,⟨#[32,120]⟩,⟨#[49]⟩,⟨#[255]⟩]
def pI(k:Int)(s:ByteArray):Pt:=
 if k=3∨k=9 then⟨k,6,s,[]⟩else if k=2 then⟨k,5,s,[]⟩else if k=1∨k=6∨k=7 then⟨k,6,⟨#[]⟩,kT s++kS s⟩
 else if k=4∨k=5∨k=8 then⟨k,6,⟨#[]⟩,kS s⟩else⟨k,6,⟨#[]⟩,[]⟩
def okS(l:List Pt):Bool:=!nI iF l&&decide (l.length≤1000)&&(decide (bY iF l≠0) ||
 (decide (rTwN (dF (iN (dI [] iF).S (dA l)))=twB (iN (dI [] iF).S (dA l)) (iN (dI [] iF).S (dA l)).length 0) &&
  decide (gQ (dF (iN (dI [] iF).S (dA l)))=gN (dF (iN (dI [] iF).S (dA l))))))
theorem whole_ok:eG iF true=0:=by kernel_rfl
theorem zF:∀x∈iF,1≤x.kind∧x.kind≤6:=of_decide_eq_true (by kernel_rfl)
theorem okS_apply{l:List Pt}(h:okS l=true):nI iF l=false∧kG iF l=bX iF l:=by
 unfold okS at h
 simp only[Bool.and_eq_true,Bool.not_eq_true',Bool.or_eq_true,decide_eq_true_eq]at h
 obtain⟨⟨h0,h1⟩,h2⟩:=h
 refine⟨h0,?_⟩
 unfold kG bX
 rcases h2 with h2|⟨h2,h3⟩
 ·have hc:dU iF l≠0:=by
   unfold dU
   rw[if_neg (by rw[whole_ok];decide),if_neg (by omega),if_pos h2]
   exact h2
  rw[if_pos hc,if_pos hc]
 ·simp only
  rw[h2,h3]
theorem ok_one:((List.range 12).all fun k=>(List.range 12).all fun a=>(gD.all fun c=>okS [⟨(k:Int),(a:Int)-1,⟨#[]⟩,c⟩])&&(mR.all fun s=>okS [⟨(k:Int),(a:Int)-1,s,[]⟩]))=true:=by kernel_rfl
theorem ok_two:((List.range 10).all fun a=>(List.range 10).all fun b=>okS [pI ((a:Int)+1) ⟨#[107]⟩,pI ((b:Int)+1) ⟨#[109]⟩])=true:=by kernel_rfl
end Go.Proofs.YtelffdgcikceaaaGreatDoor
end
