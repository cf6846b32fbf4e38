/- Texts E2, E3, E4, E5, E6, E7, E8, M1, M2, M3, M4. The package pending: moved, split, inserts. -/
import Derived.Test.YtelffdgcikceaaaGreatDoorXB3
import Derived.ChangeKeysEq
import Derived.MapKept
import Derived.KernelRfl
import Derived.RangeFuncRecord
set_option linter.unusedSimpArgs false
set_option linter.unusedVariables false
section
namespace Go.Proofs.YtelffdgcikceaaaGreatDoor
open Go.V
open Go.RowKit (Below)
def withParent(x:Nd)(p:Int):Nd:={ x with parent:=p }
theorem setParent{P:Program}{w:World}{B:Nat}{o:Option Addr}{n c:Nat}{l:List Nd}{k:Nat}{a:Addr}{p:Int}{K:World→Prop}(hs:jM P 3 1=true)(h:Vec w B 50 4 (.slice o n c) (l.map Nd.cells))(ha:o=some a)(hk:k<l.length)
  (hK:∀w' g cs,mK w g cs 50 w'→B≤g→(Value.slice o n c).ownBlock=some g→Vec w' B 50 4 (.slice o n c) ((l.set k (withParent l[k] p)).map Nd.cells)→K w') :
  bA P (storeVar 3 ((a.add (k*4)).add 3) (.int .i64 p)) w K:=by
 obtain⟨g,cp,cur,hgv,hg1,hg2,hgb,hgl,hgo,hput⟩:=h.put (k:=k) (by simpa using hk) [.int .i64 p] (off:=3) (by simp)
 simp only[Value.slice.injEq]at hgv
 obtain⟨h1,_,_⟩:=hgv
 rw[h1]at ha
 cases ha
 refine bA.store g (k*4+3) cur [.int .i64 p] 50 (by rw[bW,bW,Nat.zero_add]) rfl hs hgb hgl (by simp[Value.oneCell']) fun w' hU=>hK w' g _ hU hg1 hgo ?_
 have:=hput w' hU
 have hmap:(l.map Nd.cells).set k (splice ((l.map Nd.cells)[k]'(by simpa using hk)) 3 [.int .i64 p])=(l.set k (withParent l[k] p)).map Nd.cells:=by
  rw[List.map_set]
  congr 1
  rw[List.getElem_map]
  rfl
 rwa [hmap]at this
def upTo(f:Nd→Nd)(l:List Nd)(k:Nat):List Nd:=(l.take k).map f++l.drop k
theorem zD(f:Nd→Nd)(l:List Nd)(k:Nat):(upTo f l k).length=l.length:=by simp[upTo];omega
theorem upTo_get?(f:Nd→Nd)(l:List Nd)(k i:Nat)(hk:k≤l.length):(upTo f l k)[i]? = if i<k then(l[i]?).map f else l[i]? := by
 unfold upTo
 rw[List.getElem?_append,List.length_map,List.length_take,Nat.min_eq_left hk]
 split
 ·rename_i h
  rw[List.getElem?_map,List.getElem?_take,if_pos h]
 ·rw[List.getElem?_drop]
  congr 1
  omega
theorem uW{f:Nd→Nd}{l:List Nd}{k:Nat}(h:k<l.length)(h':k<(upTo f l k).length):(upTo f l k)[k]=l[k]:=by
 have:=upTo_get? f l k k (Nat.le_of_lt h)
 rw[if_neg (Nat.lt_irrefl _),List.getElem?_eq_getElem h',List.getElem?_eq_getElem h]at this
 exact Option.some.inj this
theorem upTo_set{f:Nd→Nd}{l:List Nd}{k:Nat}(h:k<l.length):(upTo f l k).set k (f l[k])=upTo f l (k+1):=by
 apply List.ext_getElem?
 intro i
 rw[List.getElem?_set,upTo_get? _ _ _ _ (Nat.le_of_lt h),upTo_get? _ _ _ _ (Nat.succ_le_of_lt h),zD]
 by_cases hi:k=i
 ·subst hi
  rw[if_pos rfl,if_pos h,if_pos (Nat.lt_succ_self _),List.getElem?_eq_getElem h]
  rfl
 ·rw[if_neg hi]
  by_cases h2:i<k
  ·rw[if_pos h2,if_pos (by omega)]
  ·rw[if_neg h2,if_neg (by omega)]
theorem upTo_keep{f:Nd→Nd}{l:List Nd}{k:Nat}(h:k<l.length)(hf:f l[k]=l[k]):upTo f l (k+1)=upTo f l k:=by
 rw[←upTo_set h,hf]
 have h':k<(upTo f l k).length:=by rw[zD];exact h
 rw[←uW h h',List.set_getElem_self]
theorem upTo_zero(f:Nd→Nd)(l:List Nd):upTo f l 0=l:=by simp[upTo]
theorem upTo_all(f:Nd→Nd)(l:List Nd):upTo f l l.length=l.map f:=by simp[upTo]
def aS(d:Int)(x:Nd):Nd:=if 0≤x.parent then withParent x (x.parent+d)else x
theorem vK(v:Value)(l:List Nd)(by_:Int)(w:World)(hl:aJ w v l)(hb:0≤by_∧by_≤4611686018427387904)(hp:∀x∈l,x.parent≤4611686018427387903) :
  bV Tryz.prog 44 #[v,.int .i64 by_] w (fun v' w'=>Vec w' w.heap.size 50 4 v' ((l.map (aS by_)).map Nd.cells)∧Ext w w'):=by
 have hle:=hl.len
 refine enter aB Tryz.func44 (aV rfl) rfl rfl rfl ?_
 refine aA.mk _ (mJ v l w hl) ?_
 rintro v1 w1 ⟨hv1,hE1⟩
 obtain⟨o,c,rfl,s1,s2,s3,s4,s5⟩:=hv1.shape
 simp only[List.length_map]at s1 hv1 ⊢
 refine aH.mk (X:=Nat) (fun k=>[(1,.int .i64 by_),(5,.slice o l.length c),(10,.int .i64 l.length),(11,.int .i64 k)])
  (fun k w'=>Ext w w'∧k≤l.length∧Vec w' w.heap.size 50 4 (.slice o l.length c) ((upTo (aS by_) l k).map Nd.cells)) (fun k=>l.length-k) 0
  ⟨hE1,Nat.zero_le _,by rw[upTo_zero];exact hv1⟩ ⟨rfl,rfl,rfl,rfl,trivial⟩ ?_
 rintro k w2 ⟨hE2,hk,hv2⟩
 refine Cond.dec (fun g1=>?_) (fun g1=>?_)
 ·have hkl:k<l.length:=by omega
  have hul:=zD (aS by_) l k
  obtain⟨a,ha,hc⟩:=hv2.sl.el _ _ _ rfl k (Nd.cells l[k]) (by
   rw[List.getElem?_map,List.getElem?_eq_getElem (by omega),uW hkl];rfl)
  have hpk:=hp _ (List.getElem_mem hkl)
  refine Idx.mk a ha (by omega) (by omega) ?_
  refine Load.here (hc.one rfl) ?_
  refine Cond.dec (fun g2=>?_) (fun g2=>?_)
  ·refine Idx.mk a ha (by omega) (by omega) ?_
   refine Load.here (hc.one rfl) ?_
   refine Ar.i64 (by omega) ?_
   refine Idx.mk a ha (by omega) (by omega) ?_
   refine setParent (k:=k) gL hv2 ha (by omega) fun w3 g cs hU hg ho hv3=>?_
   refine Ar.i64 (by omega) ?_
   refine⟨k+1,⟨hE2.upd hU hg,by omega,?_⟩,by omega,rfl,rfl,rfl,rfl,trivial⟩
   have e:withParent (upTo (aS by_) l k)[k] ((l[k]).parent+by_)=aS by_ l[k]:=by
    rw[uW hkl]
    unfold aS
    rw[if_pos g2]
   rw[e,upTo_set hkl]at hv3
   exact hv3
  ·refine Ar.i64 (by omega) ?_
   refine⟨k+1,⟨hE2,by omega,?_⟩,by omega,rfl,rfl,rfl,rfl,trivial⟩
   rw[upTo_keep hkl (by unfold aS;rw[if_neg g2])]
   exact hv2
 ·have:k=l.length:=by omega
  rw[this,upTo_all]at hv2
  exact And.intro hv2 hE2
def iD(l:List Nd):Bool:=(l.take (bR l)).all fun n=>dW n.name&&gX n.value
def gI(l:List Nd):Bool:=(l.drop (bR l)).all fun n=>decide (n.parent<0)||decide ((bR l:Int)≤n.parent)
def iE(l:List Nd):List Nd:=(l.drop (bR l)).map (aS (-(bR l:Int)))
def aU(l:List Nd):Bool:=iD l&&gI l&&decide (eG (iE l) false=0)
def bL(l:List Nd):List Nd:=if iD l&&gI l then l.take (bR l)else []
def bC(l:List Nd):List Nd:=if iD l&&gI l then iE l else []
theorem uR{d:Int}{x:Nd}(h:x.Wf)(hd:0≤x.parent→-9223372036854775808≤x.parent+d∧x.parent+d≤9223372036854775807):(aS d x).Wf:=by
 unfold aS
 split
 ·rename_i hp
  exact⟨h.kind,hd hp,h.name,h.value⟩
 ·exact h
theorem vT(m:Int)(o:Option Addr)(esz:Nat):(if m.toNat=(0:Int).toNat then o else o.map (fun x=>x.add ((0:Int).toNat*esz)))=o:=by
 split
 ·rfl
 ·cases o with
  | none=>rfl
  | some a=>simp[add_zero]
theorem mQ(o:Option Addr)(n c k:Nat):Value.slice (if(c:Int).toNat=(0:Int).toNat then o else o.map (fun x=>x.add ((0:Int).toNat*4))) ((k:Int).toNat-(0:Int).toNat) ((c:Int).toNat-(0:Int).toNat)=.slice o k c:=by
 rw[vT c o 4]
 rfl
theorem _root_.Go.V.aJ.front{w:World}{o:Option Addr}{n c:Nat}{l:List Nd}(h:aJ w (.slice o n c) l){k c2:Nat}(hk:k≤l.length)(h1:k≤c2)(h2:c2≤c)(h3:c2=0∨c2=k∨c2=c):aJ w (.slice o k c2) (l.take k):=by
 obtain⟨o',c',hv,e1,e2,e3,e4⟩:=h.open_
 simp only[Value.slice.injEq]at hv
 obtain⟨rfl,rfl,rfl⟩:=hv
 refine⟨.mk' (by simp;omega) h1 (by omega) (fun hn=>?_) ?_,fun x hx=>h.wf x (List.mem_of_mem_take hx),by have:=h.len;simp;omega⟩
 ·have:=e3 hn;omega
 ·rw[List.map_take];exact(h.sl.el _ _ _ rfl).take k
theorem _root_.Go.V.aJ.back{w:World}{o:Option Addr}{n c:Nat}{l:List Nd}(h:aJ w (.slice o n c) l){k:Nat}(hk:k≤l.length) :
  aJ w (.slice (if(c:Int).toNat=(k:Int).toNat then o else o.map (fun x=>x.add ((k:Int).toNat*4))) ((l.length:Int).toNat-(k:Int).toNat) ((c:Int).toNat-(k:Int).toNat)) (l.drop k):=by
 obtain⟨o',c',hv,e1,e2,e3,e4⟩:=h.open_
 simp only[Value.slice.injEq]at hv
 obtain⟨rfl,rfl,rfl⟩:=hv
 refine⟨?_,fun x hx=>h.wf x (List.mem_of_mem_drop hx),by have:=h.len;simp;omega⟩
 have hel:=(h.sl.el _ _ _ rfl).drop k
 simp only[Int.toNat_natCast]
 split
 ·rename_i e
  have hd:l.drop k=[]:=List.drop_eq_nil_of_le (by omega)
  rw[hd]
  exact .mk' (by simp;omega) (by omega) (by omega) (fun hn=>by have:=e3 hn;omega) (El.nil _ _ _)
 ·rename_i e
  refine .mk' (by simp) (by omega) (by omega) (fun hn=>?_) (by rw[List.map_drop];exact hel)
  have:=e3 (by cases o<;>simp_all)
  omega
theorem size50:jM Tryz.prog 50 4=true:=by kernel_rfl
theorem xH(v:Value)(l:List Nd)(w:World)(hl:aJ w v l)(hG:jV w) :
  bV Tryz.prog 34 #[v] w (fun v' w'=>∃va vr,v'=.tuple #[va,vr,.bool (aU l)]∧aJ w' va (bL l)∧aJ w' vr (bC l)∧Vec w' w.heap.size 50 4 vr ((bC l).map Nd.cells)∧Ext w w'):=by
 have hle:=hl.len
 have hsl:=hl.sl
 have hwf:=hl.wf
 have hl0:=hl
 obtain⟨o,c,rfl,h1,h2,h3,h4⟩:=hl.open_
 have hml:maxLen=9223372036854775807:=rfl
 have hkl:=jC l
 have bad:(iD l&&gI l)=false→∀w',Ext w w'→∃va vr,aC [Value.slice none 0 0,Value.slice none 0 0,Value.bool false]=.tuple #[va,vr,.bool (aU l)]∧aJ w' va (bL l)∧aJ w' vr (bC l)∧Vec w' w.heap.size 50 4 vr ((bC l).map Nd.cells)∧Ext w w':=fun h w' hE=>by
  refine⟨.slice none 0 0,.slice none 0 0,by simp[aC,aU,h],?_,?_,by simp only[bC,h];exact Vec.nil _ _ _ _,hE⟩
  ·simp only[bL,h];exact⟨eO.nil _ _,by simp,by simp⟩
  ·simp only[bC,h];exact⟨eO.nil _ _,by simp,by simp⟩
 refine enter aB Tryz.func34 (aV rfl) rfl rfl rfl ?_
 refine aA.mk _ (IndexFunc_con _ l w hl0) ?_
 rintro v1 w1 ⟨rfl,hE1⟩
 obtain⟨k,hk⟩:∃k,bR l=k:=⟨_,rfl⟩
 rw[hk]at hkl ⊢
 refine Cond.join (X:=Unit) (fun _=>[(0,.slice o l.length c),(5,.int .i64 k)]) (fun _ w'=>Ext w w') (fun g=>?_) (fun g=>?_) ?_
 ·have g':=of_decide_eq_true g
  have:k=l.length:=by
   by_cases h:k=l.length
   ·exact h
   ·rw[if_neg h]at g';omega
  exact⟨(),hE1,rfl,by rw[this];rfl,trivial⟩
 ·have g':=of_decide_eq_false g
  have:¬k=l.length:=fun h=>g' (by rw[if_pos h];decide)
  exact⟨(),hE1,rfl,by rw[if_neg this];rfl,trivial⟩
 rintro _ w2 hE2
 refine Need.mk ⟨by omega,by omega,by omega,by omega,by simp⟩ ?_
 refine aH.mk (X:=Nat) (fun i=>[(0,.slice o l.length c),(5,.int .i64 k),(19,.slice o k c),(20,.int .i64 k),(21,.int .i64 i)])
  (fun i w'=>Ext w w'∧i≤k∧(l.take i).all (fun n=>dW n.name&&gX n.value)=true) (fun i=>k-i) 0
  ⟨hE2,Nat.zero_le _,rfl⟩ ⟨rfl,rfl,congrArg some (mQ o l.length c k),congrArg (fun x=>some (Value.int .i64 x)) (by omega),rfl,trivial⟩ ?_
 rintro i w3 ⟨hE3,hik,hall⟩
 refine Cond.dec (fun g1=>?_) (fun g1=>?_)
 ·have hil:i<l.length:=by omega
  obtain⟨a,ha,hc⟩:=h4 _ hE3 i hil
  have hw:=hwf _ (List.getElem_mem hil)
  have hname:=hw.name
  have hvalue:=hw.value
  refine Idx.mk a ha (by omega) (by omega) ?_
  refine Load.here (hc.all' rfl) ?_
  have hsplit:(l.take (i+1)).all (fun n=>dW n.name&&gX n.value)=(dW l[i].name&&gX l[i].value):=by
   rw[List.take_succ_eq_append_getElem hil,List.all_append,hall]
   simp
  have hbad:(dW l[i].name&&gX l[i].value)=false→(iD l&&gI l)=false:=fun h=>by
   have:iD l=false:=by
    unfold iD
    rw[hk]
    refine Bool.eq_false_iff.2 fun ha=>?_
    rw[List.all_eq_true]at ha
    have:=ha l[i] (List.mem_take_iff_getElem.2 ⟨i,by omega,rfl⟩)
    rw[h]at this
    cases this
   simp[this]
  generalize l[i]=x at *
  obtain⟨kind,name,value,parent⟩:=x
  refine aG.alloc _ [.int .u8 0,.string ⟨#[]⟩,.string ⟨#[]⟩,.int .i64 0] mU rfl fun b w4 n4=>?_
  refine bA.store b 0 _ [.int .u8 kind,.string name,.string value,.int .i64 parent] 50 rfl rfl (by kernel_rfl) n4.blk (by simp) (by simp[Value.oneCell']) fun w5 hU5=>?_
  have n5:=n4.upd hU5
  have hE5:=hE3.trans n5.ext
  have hc5:=n5.blk.cells
  refine Load.here (hc5.one (k:=1) rfl) ?_
  refine aA.mk _ (xP name _ (by simp only at hname;omega) (hG.ext hE5)) ?_
  rintro v w6 ⟨rfl,hE6⟩
  refine aK.negF (fun g2=>?_) (fun g2=>?_)
  ·repeat (first|refine gA ?_|refine gB ?_|refine gC ?_)
   refine Load.here ((hc5.ext hE6).one (k:=2) rfl) ?_
   repeat (first|refine gA ?_|refine gB ?_|refine gC ?_)
   refine aA.mk _ (vS value _ (by simp only at hvalue;omega) (hG.ext (hE5.trans hE6))) ?_
   rintro v w7 ⟨rfl,hE7⟩
   repeat (first|refine gA ?_|refine gB ?_|refine gC ?_)
   refine Cond.neg (fun g3=>?_) (fun g3=>?_)
   ·exact bad (hbad (by simp only[g3,Bool.and_false])) _ ((hE5.trans hE6).trans hE7)
   ·refine Ar.aM (i+1) (by omega) (by omega) ?_
    exact⟨i+1,⟨(hE5.trans hE6).trans hE7,by omega,by rw[hsplit];simp only[g2,g3];rfl⟩,by omega,rfl,rfl,rfl,rfl,rfl,trivial⟩
  ·repeat (first|refine gA ?_|refine gB ?_|refine gC ?_)
   refine Cond.yes ?_
   exact bad (hbad (by simp only[g2,Bool.false_and])) _ (hE5.trans hE6)
 have hik':i=k:=by omega
 subst hik'
 have hattrs:iD l=true:=by unfold iD;rw[hk];exact hall
 refine Need.mk ⟨by omega,by omega,by omega,by omega,by simp⟩ ?_
 have hback:=(hl0.ext hE3).back hkl
 refine aA.mk _ (mJ _ (l.drop i) _ hback) ?_
 rintro v4 w4 ⟨hv4,hE4⟩
 obtain⟨o2,c2,rfl,s1,s2,s3,s4,s5⟩:=hv4.shape
 obtain⟨rest,hrest⟩:∃r,l.drop i=r:=⟨_,rfl⟩
 have hrl:rest.length=l.length-i:=by rw[←hrest];simp
 rw[hrest]at hv4 s1 s4 ⊢
 simp only[List.length_map]at s1 hv4 ⊢
 have hrwf:∀x∈rest,x.Wf:=fun x hx=>hwf x (List.mem_of_mem_drop (hrest▸hx))
 have hB4:w.heap.size≤w3.heap.size:=hE3.sz
 have hv5:=hv4.dJ hB4
 refine aH.mk (X:=Nat) (fun j=>[(0,.slice o l.length c),(5,.int .i64 i),(8,.slice o2 rest.length c2),(41,.int .i64 rest.length),(42,.int .i64 j)])
  (fun j w'=>Ext w w'∧j≤rest.length∧Vec w' w.heap.size 50 4 (.slice o2 rest.length c2) ((upTo (aS (-(i:Int))) rest j).map Nd.cells)∧(rest.take j).all (fun n=>decide (n.parent<0)||decide ((i:Int)≤n.parent))=true) (fun j=>rest.length-j) 0
  ⟨hE3.trans hE4,Nat.zero_le _,by rw[upTo_zero];exact hv5,rfl⟩ ⟨rfl,rfl,rfl,rfl,rfl,trivial⟩ ?_
 rintro j w5 ⟨hE5,hj,hv6,hok⟩
 refine Cond.dec (fun g1=>?_) (fun g1=>?_)
 ·have hjl:j<rest.length:=by omega
  have hul:=zD (aS (-(i:Int))) rest j
  have hpk:=hrwf _ (List.getElem_mem hjl)
  have hp1:=hpk.parent
  obtain⟨a,ha,hc⟩:=hv6.sl.el _ _ _ rfl j (Nd.cells rest[j]) (by
   rw[List.getElem?_map,List.getElem?_eq_getElem (by omega),uW hjl];rfl)
  have hsplit:(rest.take (j+1)).all (fun n=>decide (n.parent<0)||decide ((i:Int)≤n.parent))=(decide (rest[j].parent<0)||decide ((i:Int)≤rest[j].parent)):=by
   rw[List.take_succ_eq_append_getElem hjl,List.all_append,hok]
   simp
  refine Idx.mk a ha (by omega) (by omega) ?_
  refine Load.here (hc.one (k:=3) rfl) ?_
  refine Cond.dec (fun g2=>?_) (fun g2=>?_)
  ·refine Cond.dec (fun g3=>?_) (fun g3=>?_)
   ·refine bad ?_ _ hE5
    have:gI l=false:=by
     unfold gI
     rw[hk,hrest]
     refine Bool.eq_false_iff.2 fun ha=>?_
     rw[List.all_eq_true]at ha
     have:=ha _ (List.getElem_mem hjl)
     simp at this
     omega
    simp[this]
   ·refine Ar.i64 (by omega) ?_
    refine Idx.mk a ha (by omega) (by omega) ?_
    refine setParent (k:=j) gL hv6 ha (by omega) fun w6 g cs hU hg ho hv7=>?_
    refine Ar.aM (j+1) (by omega) (by omega) ?_
    refine⟨j+1,⟨hE5.upd hU hg,by omega,?_,?_⟩,by omega,rfl,rfl,rfl,rfl,rfl,trivial⟩
    ·have e:withParent (upTo (aS (-(i:Int))) rest j)[j] ((rest[j]).parent-i)=aS (-(i:Int)) rest[j]:=by
      rw[uW hjl]
      unfold aS
      rw[if_pos g2]
      rfl
     rw[e,upTo_set hjl]at hv7
     exact hv7
    ·rw[hsplit]
     simp
     omega
  ·refine Ar.aM (j+1) (by omega) (by omega) ?_
   refine⟨j+1,⟨hE5,by omega,?_,?_⟩,by omega,rfl,rfl,rfl,rfl,rfl,trivial⟩
   ·rw[upTo_keep hjl (by unfold aS;rw[if_neg g2])]
    exact hv6
   ·rw[hsplit]
    simp
    omega
 have hj':j=rest.length:=by omega
 subst hj'
 rw[upTo_all]at hv6
 have hrestOk:gI l=true:=by
  unfold gI
  rw[hk,hrest,←hok,List.take_length]
 have hR:bC l=rest.map (aS (-(i:Int))):=by simp[bC,hattrs,hrestOk,iE,hk,hrest]
 have hA:bL l=l.take i:=by simp[bL,hattrs,hrestOk,hk]
 have hnR:aJ w5 (.slice o2 rest.length c2) (bC l):=by
  rw[hR]
  refine hv6.nodes (fun x hx=>?_) (by simp;omega)
  obtain⟨y,hy,rfl⟩:=List.mem_map.1 hx
  have hyw:=hrwf y hy
  have hp:=hyw.parent
  exact uR hyw (fun h0=>by omega)
 have hE6:=hE5.trans (Ext.drew w5)
 refine aQ.mk aB mixed (allT 0 6++[(6,false),(7,true),(8,true),(9,true),(10,true)]) [] (by kernel_rfl) (fun _=>True) trivial ?_
 refine Need.mk ⟨by omega,by omega,by omega,by omega,by simp⟩ ?_
 refine aA.mk _ (xM (bC l) _ _ (hnR.ext (Ext.drew w5)) (hG.ext hE6)) ?_
 rintro v w7 ⟨rfl,hE7⟩
 refine Need.mk trivial ?_
 refine⟨.slice o i i,.slice o2 rest.length c2,?_,?_,(hnR.ext (Ext.drew w5)).ext hE7,?_,hE6.trans hE7⟩
 rotate_right
 ·rw[hR]
  exact(hv6.ext (Ext.drew w5)).ext hE7
 ·have e:(if(i:Int).toNat=(0:Int).toNat then o else o.map (fun x=>x.add ((0:Int).toNat*4)))=o:=vT i o 4
  have e2:aU l=decide (eG (bC l) false=0):=by simp[aU,bC,hattrs,hrestOk]
  rw[e2]
  show Value.tuple #[Value.slice (if(i:Int).toNat=(0:Int).toNat then o else o.map (fun x=>x.add ((0:Int).toNat*4))) i i,_,_]=_
  rw[e]
 ·rw[hA]
  exact(hl0.ext (hE6.trans hE7)).front hkl (Nat.le_refl _) (by omega) (.inr (.inl rfl))
theorem split_con(v:Value)(l:List Nd)(w:World)(hl:aJ w v l)(hG:jV w) :
  bV Tryz.prog 34 #[v] w (fun v' w'=>∃va vr,v'=.tuple #[va,vr,.bool (aU l)]∧aJ w' va (bL l)∧aJ w' vr (bC l)∧Ext w w'):=
 (xH v l w hl hG).mono fun _ _ ⟨va,vr,h1,h2,h3,_,h5⟩=>⟨va,vr,h1,h2,h3,h5⟩
def shape0:Shape:=⟨false,false,false,[]⟩
def shapeOf(k:Int):Shape:=sW.getD k.toNat shape0
def insertsB(k:Int):Bool:=(shapeOf k).content&&!decide (k=8)
def iL(p:Pt):Bool:=decide (1≤p.kind)&&decide (p.kind≤10) &&
 !((!(shapeOf p.kind).text&&!decide (p.text=aP))||(!(shapeOf p.kind).content&&decide (0<p.nodes.length))||(decide (p.kind=9)&&!gX p.text)||(decide (p.kind=3)&&!dW p.text))&&aU p.nodes
theorem y7{w:World}(hG:jV w){k:Int}(h0:0≤k)(h1:k<11):Cells w ((⟨0,0,none⟩:Addr).add (k.toNat*4)) (shapeOf k).cells:=by
 have hel:El w (some ⟨0,0,none⟩) 4 (sW.map Shape.cells):=El.of_cells hG.shapes (by
  intro x hx
  obtain⟨y,_,rfl⟩:=List.mem_map.1 hx
  rfl)
 have hl:k.toNat<sW.length:=by show k.toNat<11;omega
 obtain⟨a,ha,hc⟩:=hel k.toNat (shapeOf k).cells (by
  rw[List.getElem?_map,List.getElem?_eq_getElem hl]
  unfold shapeOf
  rw[List.getD_eq_getElem?_getD,List.getElem?_eq_getElem hl]
  rfl)
 cases ha
 exact hc
theorem inserts_con(k:Int)(w:World)(hk:0≤k∧k<11)(hG:jV w):bV Tryz.prog 42 #[.int .u8 k] w (fun v w'=>v=.bool (insertsB k)∧w'=w):=by
 have hc:=y7 hG hk.1 hk.2
 unfold insertsB
 generalize shapeOf k=s at *
 obtain⟨sc,st,so,tg⟩:=s
 refine enter aB Tryz.func42 (aV rfl) rfl rfl rfl ?_
 refine Need.mk ⟨by omega,by omega⟩ ?_
 refine Load.here (hc.one (k:=0) rfl) ?_
 cases sc
 ·repeat (first|refine gA ?_|refine gB ?_|refine gC ?_)
  exact And.intro (by simp[aC]) rfl
 ·repeat (first|refine gA ?_|refine gB ?_|refine gC ?_)
  exact And.intro (by simp[aC]) rfl
theorem zero102:fJ Tryz.prog 102 (.agg #[.bool false,.bool false,.bool false,.string ⟨#[]⟩]):=by unfold fJ;kernel_rfl
theorem alone_con(r:aR)(p:Pt)(w:World)(hr:gM w r p)(hG:jV w) :
  bV Tryz.prog 60 #[.agg r.cells.toArray] w (fun v w'=>v=.bool (iL p)∧Ext w w'):=by
 have hk:=hr.wkind;have ht:=hr.wtext;have hn:=hr.nodes
 have e1:=hr.kind;have e3:=hr.text
 obtain⟨pk,pt,px,pn⟩:=p
 obtain⟨kind,target,text,nodes⟩:=r
 simp only at hk ht hn e1 e3
 subst e1 e3
 obtain⟨no,nc,rfl,-,-,-,-⟩:=hn.open_
 refine enter aB Tryz.func60 (aV rfl) rfl rfl rfl ?_
 refine aG.box [.int .u8 kind,.int .i64 target,.string text,_] rfl fun b w1 n1=>?_
 have hcP:=n1.blk.cells
 have hE1:=n1.ext
 refine Load.here (hcP.one (k:=0) rfl) ?_
 refine aK.bH (fun g1=>?_) (fun g1=>?_)
 rotate_left
 ·repeat (first|refine gA ?_|refine gB ?_|refine gC ?_)
  refine Cond.yes (And.intro ?_ hE1)
  have:¬1≤kind:=by omega
  simp[aC,iL,this]
 repeat (first|refine gA ?_|refine gB ?_|refine gC ?_)
 refine Load.here (hcP.one (k:=0) rfl) ?_
 repeat (first|refine gA ?_|refine gB ?_|refine gC ?_)
 refine Cond.dec (fun g2=>?_) (fun g2=>?_)
 ·refine And.intro ?_ hE1
  have:¬kind≤10:=by omega
  simp[aC,iL,this]
 have k1:1≤kind:=by omega
 have k2:kind≤10:=by omega
 have hcS0:=y7 hG (k:=kind) (by omega) (by omega)
 have hsp:iL ⟨kind,pt,text,pn⟩=(!((!(shapeOf kind).text&&!decide (text=aP))||(!(shapeOf kind).content&&decide (0<pn.length))||(decide (kind=9)&&!gX text)||(decide (kind=3)&&!dW text))&&aU pn):=by
  simp[iL,k1,k2]
 rw[hsp]
 generalize shapeOf kind=s at *
 obtain⟨sc,st,so,tg⟩:=s
 refine Load.here (hcP.one (k:=0) rfl) ?_
 refine Need.mk ⟨by omega,by omega⟩ ?_
 refine Load.here ((hcS0.ext hE1).all' rfl) ?_
 refine aG.alloc _ [.bool false,.bool false,.bool false,.string ⟨#[]⟩] zero102 rfl fun bs w2 n2=>?_
 refine bA.store bs 0 _ [.bool sc,.bool st,.bool so,.string ⟨tg.toArray⟩] 102 rfl rfl (by kernel_rfl) n2.blk (by simp) (by simp[Value.oneCell']) fun w3 hU3=>?_
 have n3:=n2.upd hU3
 have hE3:=hE1.trans n3.ext
 have hcQ:=hcP.ext n3.ext
 have hcS:=n3.blk.cells
 have hnl:=hn.len
 have bad:∀w',Ext w w'→(!((!st&&!decide (text=aP))||(!sc&&decide (0<pn.length))||(decide (kind=9)&&!gX text)||(decide (kind=3)&&!dW text))&&aU pn)=false→
   (aC [Value.bool false]=.bool (!((!st&&!decide (text=aP))||(!sc&&decide (0<pn.length))||(decide (kind=9)&&!gX text)||(decide (kind=3)&&!dW text))&&aU pn)∧Ext w w'):=fun w' hE h=>by
  rw[h];exact⟨rfl,hE⟩
 cases st<;>cases sc <;>
 repeat' (first
  | refine gA ?_
  | refine gB ?_
  | refine gC ?_
  | refine Load.here (hcQ.one (k:=0) rfl) ?_
  | refine Load.here (hcQ.one (k:=2) rfl) ?_
  | refine Load.here (hcQ.one (k:=3) rfl) ?_
  | refine Load.here (hcS.one (k:=0) rfl) ?_
  | refine Load.here (hcS.one (k:=1) rfl) ?_
  | refine Load.here ((hcQ.ext ‹_›).one (k:=0) rfl) ?_
  | refine Load.here ((hcQ.ext ‹_›).one (k:=2) rfl) ?_
  | refine aK.bB (fun _=>?_) (fun _=>?_)
  | refine aK.bH (fun _=>?_) (fun _=>?_)
  | refine aK.bP (fun _=>?_) (fun _=>?_)
  | refine aK.negF (fun _=>?_) (fun _=>?_)
  | (refine aA.mk _ (vS text _ (by omega) (hG.ext hE3)) ?_;rintro v w4 ⟨rfl,hE4⟩)
  | (refine aA.mk _ (xP text _ (by omega) (hG.ext hE3)) ?_;rintro v w4 ⟨rfl,hE4⟩)
  | (refine aA.mk _ (xP text _ (by omega) (hG.ext (hE3.trans ‹_›))) ?_;rintro v w5 ⟨rfl,hE5⟩)
  | fail)
 all_goals first
  | have hX:=hE4.trans hE5
  | have hX:=hE4
  | have hX:=Ext.refl w3
 all_goals first
  | refine Cond.yes (bad _ (hE3.trans hX) ?_)
  | refine Cond.neg (fun g=>bad _ (hE3.trans hX) ?_) (fun g=>?_)
  | refine Cond.dec (fun g=>bad _ (hE3.trans hX) ?_) (fun g=>?_)
  | refine Cond.dH (fun g=>bad _ (hE3.trans hX) ?_) (fun g=>?_)
  | refine Cond.no ?_
  | fail
 all_goals first
  | (refine Load.here ((hcQ.ext hX).one (k:=3) rfl) ?_
     refine aA.mk _ (split_con _ pn _ (hn.ext (hE3.trans hX)) (hG.ext (hE3.trans hX))) ?_
     rintro v w6 ⟨va,vr,rfl,-,-,hE6⟩
     refine And.intro ?_ ((hE3.trans hX).trans hE6)
     clear hX hE3 hcQ hcP hcS n1 n2 n3 hE1 hr hn hG hU3 bad hcS0 hsp
     simp_all[aC,aP,Int.natCast_pos])
  | (clear hX hE3 hcQ hcP hcS n1 n2 n3 hE1 hr hn hG hU3 bad hcS0 hsp
     simp_all[aP,Int.natCast_pos])
def tH(kind k:Int):Bool:=decide (0≤Lib.indexByte (shapeOf kind).targets (48+k).toNat.toUInt8)
def xB(kind k:Int):Bool:=decide (kind=8)||decide (kind=4)||decide (kind=5)||decide (k=1)
def wJ(p:Pt)(k:Int):Bool:=if p.kind=8∧k=3 then decide ((bC p.nodes).length=0)else if xB p.kind k then decide ((bL p.nodes).length=0)else true
def jA(t:List Nd)(p:Pt):Bool:=decide (0≤p.target)&&decide (p.target<t.length)&&(wJ p (nd t p.target).kind&&tH p.kind (nd t p.target).kind)
theorem aimed_con(v:Value)(t:List Nd)(r:aR)(p:Pt)(w:World)(ht:aJ w v t)(hr:gM w r p)(hG:jV w)(hk:p.kind≤10)(hks:∀x∈t,x.kind≤79) :
  bV Tryz.prog 61 #[v,.agg r.cells.toArray] w (fun v w'=>v=.bool (jA t p)∧Ext w w'):=by
 have hk0:=hr.wkind;have htx:=hr.wtext;have hn:=hr.nodes
 have e1:=hr.kind;have e2:=hr.target;have e3:=hr.text
 have htl:=ht.len
 obtain⟨tO,tc,rfl,t1,t2,t3,t4⟩:=ht.open_
 obtain⟨pk,pt,px,pn⟩:=p
 obtain⟨kind,target,text,nodes⟩:=r
 simp only at hk0 htx hn e1 e2 e3 hk
 subst e1 e2 e3
 obtain⟨no,nc,rfl,-,-,-,-⟩:=hn.open_
 refine enter aB Tryz.func61 (aV rfl) rfl rfl rfl ?_
 refine aG.box [.int .u8 kind,.int .i64 target,.string text,_] rfl fun b w1 n1=>?_
 have hcP:=n1.blk.cells
 have hE1:=n1.ext
 refine Load.here (hcP.one (k:=1) rfl) ?_
 refine aK.bH (fun g1=>?_) (fun g1=>?_)
 rotate_left
 ·repeat (first|refine gA ?_|refine gB ?_|refine gC ?_)
  refine Cond.yes (And.intro ?_ hE1)
  have:¬0≤target:=by omega
  simp[aC,jA,this]
 repeat (first|refine gA ?_|refine gB ?_|refine gC ?_)
 refine Load.here (hcP.one (k:=1) rfl) ?_
 repeat (first|refine gA ?_|refine gB ?_|refine gC ?_)
 refine Cond.dec (fun g2=>?_) (fun g2=>?_)
 ·refine And.intro ?_ hE1
  have:¬target<(t.length:Int):=by omega
  simp[aC,jA,this]
 obtain⟨tt,rfl⟩:∃tt:Nat,target=(tt:Int):=⟨target.toNat,by omega⟩
 have htt:tt<t.length:=by omega
 have hnd:nd t (tt:Int)=t[tt]:=eT htt
 have hsp:jA t ⟨kind,tt,text,pn⟩=(wJ ⟨kind,tt,text,pn⟩ t[tt].kind&&tH kind t[tt].kind):=by
  have:tt<t.length:=htt
  simp[jA,hnd,this]
 rw[hsp]
 obtain⟨a,ha,hca⟩:=t4 _ hE1 tt htt
 have hkk:=hks _ (List.getElem_mem htt)
 have hkw:=(ht.wf _ (List.getElem_mem htt)).kind
 refine Load.here (hcP.one (k:=1) rfl) ?_
 refine Idx.mk a ha (by omega) (by omega) ?_
 refine Load.here (hca.one (k:=0) rfl) ?_
 generalize t[tt].kind=k at *
 refine Load.here (hcP.one (k:=3) rfl) ?_
 refine aA.mk _ (split_con _ pn _ (hn.ext hE1) (hG.ext hE1)) ?_
 rintro v w2 ⟨va,vr,rfl,hva,hvr,hE2⟩
 obtain⟨ao,ac,rfl,-,-,-,-⟩:=hva.open_
 obtain⟨ro,rc,rfl,-,-,-,-⟩:=hvr.open_
 have hcQ:=hcP.ext hE2
 have hE:=hE1.trans hE2
 refine Load.here (hcQ.one (k:=0) rfl) ?_
 refine aK.bB (fun g3=>?_) (fun g3=>?_)
 focus
  repeat (first|refine gA ?_|refine gB ?_|refine gC ?_)
  refine Cond.join (X:=Bool) (fun b'=>[(0,.slice tO t.length tc),(3,.pointer (some ⟨b,0,none⟩)),(5,.int .u8 k),(9,.bool b')]) (fun b' w'=>b'=wJ ⟨kind,tt,text,pn⟩ k∧w'=w2) (fun g=>?_) (fun g=>?_) ?_
  ·have g4:=of_decide_eq_true g
   exact⟨_,⟨by simp[wJ,g3,g4],rfl⟩,rfl,rfl,rfl,rfl,trivial⟩
  ·have g4:=of_decide_eq_false g
   refine Load.here (hcQ.one (k:=0) rfl) ?_
   refine Cond.dec (fun g5=>?_) (fun g5=>absurd g3 g5)
   refine Cond.dec (fun g6=>?_) (fun g6=>absurd g3 g6)
   exact⟨_,⟨by simp[wJ,g3,g4,xB],rfl⟩,rfl,rfl,rfl,rfl,trivial⟩
 rotate_left
 focus
  repeat (first|refine gA ?_|refine gB ?_|refine gC ?_)
  refine Cond.no ?_
  refine Load.here (hcQ.one (k:=0) rfl) ?_
  refine Cond.join (X:=Bool) (fun b'=>[(0,.slice tO t.length tc),(3,.pointer (some ⟨b,0,none⟩)),(5,.int .u8 k),(6,.slice ao (bL pn).length ac),(9,.bool true),(44,.bool b')]) (fun b' w'=>b'=xB kind k∧w'=w2) (fun g=>?_) (fun g=>?_) ?_
  ·exact absurd (of_decide_eq_true g) g3
  ·refine Load.here (hcQ.one (k:=0) rfl) ?_
   refine Cond.dec (fun g5=>?_) (fun g5=>?_)
   ·exact⟨_,⟨by simp[xB,g5],rfl⟩,rfl,rfl,rfl,rfl,rfl,rfl,trivial⟩
   ·refine Load.here (hcQ.one (k:=0) rfl) ?_
    refine Cond.dec (fun g6=>?_) (fun g6=>?_)
    ·exact⟨_,⟨by simp[xB,g6],rfl⟩,rfl,rfl,rfl,rfl,rfl,rfl,trivial⟩
    ·exact⟨decide (k=1),⟨by simp[xB,g3,g5,g6],rfl⟩,rfl,rfl,rfl,rfl,rfl,rfl,trivial⟩
  rintro b' w' ⟨hb',rfl⟩
  refine Cond.join (X:=Bool) (fun b'=>[(0,.slice tO t.length tc),(3,.pointer (some ⟨b,0,none⟩)),(5,.int .u8 k),(9,.bool b')]) (fun b' w''=>b'=wJ ⟨kind,tt,text,pn⟩ k∧w''=w') (fun g=>?_) (fun g=>?_) ?_
  ·exact⟨_,⟨by simp[wJ,g3,←hb',g],rfl⟩,rfl,rfl,rfl,rfl,trivial⟩
  ·exact⟨true,⟨by simp[wJ,g3,←hb',g],rfl⟩,rfl,rfl,rfl,rfl,trivial⟩
 all_goals
  rintro b' w' ⟨hb',rfl⟩
  rw[←hb']
  cases b'
  ·repeat (first|refine gA ?_|refine gB ?_|refine gC ?_)
   exact And.intro (by simp[aC]) hE
  ·have hsh:=y7 hG (k:=kind) hk0.1 (by omega)
   repeat (first|refine gA ?_|refine gB ?_|refine gC ?_)
   refine Load.here (hcQ.one (k:=0) rfl) ?_
   repeat (first|refine gA ?_|refine gB ?_|refine gC ?_)
   refine Need.mk ⟨by omega,by omega⟩ ?_
   repeat (first|refine gA ?_|refine gB ?_|refine gC ?_)
   refine Load.here ((hsh.ext hE).one (k:=3) rfl) ?_
   repeat (first|refine gA ?_|refine gB ?_|refine gC ?_)
   refine Ar.u8 (by omega) ?_
   repeat (first|refine gA ?_|refine gB ?_|refine gC ?_)
   refine Ar.i32 (by omega) ?_
   repeat (first|refine gA ?_|refine gB ?_|refine gC ?_)
   refine aA.mk _ (ContainsRune_con _ _ _ (by omega) (by omega)) ?_
   rintro v w3 ⟨rfl,rfl⟩
   repeat (first|refine gA ?_|refine gB ?_|refine gC ?_)
   exact And.intro (by simp[aC,tH]) hE
def fragB(x:Nd):Bool:=decide (eG [withParent x (-1)] false=0)
def dM(n:Nd)(p:Pt):Bool:=
 if p.kind=2 then(if n.kind=3∨n.kind=4 then gX p.text else fragB { n with value:=p.text })
 else if p.kind=3∧n.kind=6 then fragB { n with name:=p.text } else true
theorem becomes_con(n:Nd)(r:aR)(p:Pt)(w:World)(hnw:n.Wf)(hr:gM w r p)(hG:jV w) :
  bV Tryz.prog 62 #[.agg n.cells.toArray,.agg r.cells.toArray] w (fun v w'=>v=.bool (dM n p)∧Ext w w'):=by
 have htx:=hr.wtext;have hpn:=hr.nodes
 have e1:=hr.kind;have e2:=hr.target;have e3:=hr.text
 obtain⟨pk,pt,px,pn⟩:=p
 obtain⟨kind,target,text,nodes⟩:=r
 obtain⟨nk,nn,nv,np⟩:=n
 simp only at htx hpn e1 e2 e3
 subst e1 e2 e3
 obtain⟨no,nc,rfl,-,-,-,-⟩:=hpn.open_
 obtain⟨wk,wp,wn,wv⟩:=hnw
 simp only at wk wp wn wv
 refine enter aB Tryz.func62 (aV rfl) rfl rfl rfl ?_
 refine aG.box [.int .u8 nk,.string nn,.string nv,.int .i64 np] rfl fun bn w1 n1=>?_
 refine aG.box [.int .u8 kind,.int .i64 target,.string text,_] rfl fun bp w2 n2=>?_
 have hbn:=n1.blk.ext n2.ext
 have hcN:=hbn.cells
 have hcP:=n2.blk.cells
 have hE:=n1.ext.trans n2.ext
 have ge1:w.heap.size≤bn:=by rw[n1.b_eq];exact Nat.le_refl _
 have hne:bp≠bn:=by rw[n1.b_eq,n2.b_eq,n1.sz];omega
 refine Load.here (hcP.one (k:=0) rfl) ?_
 refine aK.bB (fun g1=>?_) (fun g1=>?_)
 focus
  repeat (first|refine gA ?_|refine gB ?_|refine gC ?_)
  refine Load.here (hcN.one (k:=0) rfl) ?_
  repeat (first|refine gA ?_|refine gB ?_|refine gC ?_)
  refine aK.bH (fun g2=>?_) (fun g2=>?_)
  rotate_left
  ·repeat (first|refine gA ?_|refine gB ?_|refine gC ?_)
   refine Cond.yes ?_
   refine Load.here (hcP.one (k:=2) rfl) ?_
   refine aA.mk _ (vS text _ (by omega) (hG.ext hE)) ?_
   rintro v w3 ⟨rfl,hE3⟩
   exact And.intro (by simp[aC,dM,g1,g2]) (hE.trans hE3)
  repeat (first|refine gA ?_|refine gB ?_|refine gC ?_)
  refine Load.here (hcN.one (k:=0) rfl) ?_
  repeat (first|refine gA ?_|refine gB ?_|refine gC ?_)
  refine Cond.dec (fun g3=>?_) (fun g3=>?_)
  ·refine Load.here (hcP.one (k:=2) rfl) ?_
   refine aA.mk _ (vS text _ (by omega) (hG.ext hE)) ?_
   rintro v w3 ⟨rfl,hE3⟩
   exact And.intro (by simp[aC,dM,g1,g3]) (hE.trans hE3)
  refine Load.here (hcP.one (k:=0) rfl) ?_
  refine Cond.dec (fun _=>?_) (fun g4=>absurd g1 g4)
  refine Load.here (hcP.one (k:=2) rfl) ?_
  refine bA.store bn 2 _ [.string text] 50 rfl rfl (by kernel_rfl) hbn (by simp) (by simp[Value.oneCell']) fun w3 hU3=>?_
  have hE3:=hE.upd hU3 ge1
  have hb3:bQ w3 bn (Nd.cells ⟨nk,nn,text,np⟩) 50:=hU3.blk
  have hsp:dM ⟨nk,nn,nv,np⟩ ⟨kind,target,text,pn⟩=fragB ⟨nk,nn,text,np⟩:=by simp[dM,g1,g2,g3]
  obtain⟨x,hx⟩:∃x:Nd,(⟨nk,nn,text,np⟩:Nd)=x:=⟨_,rfl⟩
  have hxw:x.Wf:=by rw[←hx];exact⟨wk,wp,wn,htx⟩
  rw[hx]at hb3 hsp
 rotate_left
 focus
  repeat (first|refine gA ?_|refine gB ?_|refine gC ?_)
  refine Cond.no ?_
  refine Load.here (hcP.one (k:=0) rfl) ?_
  refine Cond.dec (fun g2=>absurd g2 g1) (fun _=>?_)
  refine Load.here (hcP.one (k:=0) rfl) ?_
  refine aK.bB (fun g3=>?_) (fun g3=>?_)
  rotate_left
  ·repeat (first|refine gA ?_|refine gB ?_|refine gC ?_)
   refine Cond.no ?_
   exact And.intro (by simp[aC,dM,g1,g3]) hE
  repeat (first|refine gA ?_|refine gB ?_|refine gC ?_)
  refine Load.here (hcN.one (k:=0) rfl) ?_
  repeat (first|refine gA ?_|refine gB ?_|refine gC ?_)
  refine Cond.dec (fun g4=>?_) (fun g4=>?_)
  rotate_left
  ·exact And.intro (by simp[aC,dM,g1,g3,g4]) hE
  refine Load.here (hcP.one (k:=2) rfl) ?_
  refine bA.store bn 1 _ [.string text] 50 rfl rfl (by kernel_rfl) hbn (by simp) (by simp[Value.oneCell']) fun w3 hU3=>?_
  have hE3:=hE.upd hU3 ge1
  have hb3:bQ w3 bn (Nd.cells ⟨nk,text,nv,np⟩) 50:=hU3.blk
  have hsp:dM ⟨nk,nn,nv,np⟩ ⟨kind,target,text,pn⟩=fragB ⟨nk,text,nv,np⟩:=by simp[dM,g1,g3,g4]
  obtain⟨x,hx⟩:∃x:Nd,(⟨nk,text,nv,np⟩:Nd)=x:=⟨_,rfl⟩
  have hxw:x.Wf:=by rw[←hx];exact⟨wk,wp,htx,wv⟩
  rw[hx]at hb3 hsp
 all_goals
  rw[hsp]
  refine bA.store bn 3 _ [.int .i64 (-1)] 50 rfl rfl (by kernel_rfl) hb3 (by simp[Nd.cells]) (by simp[Value.oneCell']) fun w4 hU4=>?_
  have hE4:=hE3.upd hU4 ge1
  have hb4:bQ w4 bn (Nd.cells (withParent x (-1))) 50:=hU4.blk
  refine Load.here (hb4.cells.all' rfl) ?_
  refine aG.mk _ _ (aY _ _ _ _ _) ?_
  have n5:bO w4 w4.heap.size (Nd.cells (withParent x (-1))) 50 (w4.alloc (.cells (Nd.cells (withParent x (-1))).toArray 50)):=⟨rfl,rfl⟩
  have hsl:aJ (w4.alloc (.cells (Nd.cells (withParent x (-1))).toArray 50)) (.slice (some ⟨w4.heap.size,0,none⟩) 1 1) [withParent x (-1)]:=
   ⟨aT n5,by
    intro y hy
    rw[List.mem_singleton.1 hy]
    exact⟨hxw.kind,(by decide:(-9223372036854775808:Int)≤-1∧(-1:Int)≤9223372036854775807),hxw.name,hxw.value⟩,by simp⟩
  refine aA.mk _ (xM [withParent x (-1)] _ _ hsl (hG.ext (hE4.trans n5.ext))) ?_
  rintro v w5 ⟨rfl,hE5⟩
  exact And.intro rfl ((hE4.trans n5.ext).trans hE5)
def key2(a b:Int):Value:=.agg #[.int .i64 a,.int .i64 b]
theorem wO(a b:Int)(e:Bool)(w:World):(Instr.checkKey e 10000 100 (key2 a b)).run Tryz.prog w=.ok () w:=by kernel_rfl
theorem cells3:Tryz.prog.cellsOf 3=1:=by kernel_rfl
theorem info3:∃i,Tryz.prog.info? 3=some i:=by
 obtain⟨i,h,_⟩:=zero3
 exact⟨i,h⟩
theorem run_eq2In(a b c d:Int)(w:World)(n:Nat):(Op.equalIn (n+2) 100 (key2 a b) (key2 c d)).run Tryz.prog w=.ok (decide (a=c∧b=d)) w:=by
 obtain⟨i,hi⟩:=info3
 have p:∀(x y:Int) (j:Nat) (v:Value),(#[Value.int .i64 x,Value.int .i64 y])[j]? = some v→(part 3 #[Value.int .i64 x,Value.int .i64 y] j).run Tryz.prog w=.ok v w:=fun x y j v h=>by
  have ha:xR Tryz.prog 3 false=true:=by kernel_rfl
  simp[part,mP ha,h]
 unfold key2
 rw[run_equalIn_array w (n+1) _ _ Tryz.underlying100 hi,cells3]
 show(Op.eqItems (n+1) 3 1 _ _ [0,1]).run Tryz.prog w=_
 simp only[Op.eqItems,Sem.run_bind,Nat.zero_mul,Nat.one_mul]
 rw[p a b 0 (.int .i64 a) rfl,Result.andThen_ok,p c d 0 (.int .i64 c) rfl,Result.andThen_ok,run_equalIn_int w _ _ .i64 .i64 _ _ Tryz.underlying3]
 by_cases h:a=c
 ·subst h
  simp only[if_true,Result.andThen_ok,beq_self_eq_true,Bool.not_true,Bool.false_eq_true,if_false,Sem.run_bind]
  rw[p a b 1 (.int .i64 b) rfl,Result.andThen_ok,p a d 1 (.int .i64 d) rfl,Result.andThen_ok,run_equalIn_int w _ _ .i64 .i64 _ _ Tryz.underlying3]
  by_cases h2:b=d
  ·subst h2;simp
  ·simp[h2]
 ·have:(a == c)=false:=by simp[h]
  simp[this,h]
theorem run_eq2(a b c d:Int)(w:World):(Op.equal 100 (key2 a b) (key2 c d)).run Tryz.prog w=.ok (decide (a=c∧b=d)) w:=
 run_eq2In a b c d w 9998
structure En where
 a:Int
 b:Int
 v:Int
def En.entry(x:En)(i:Nat):MapEntry:=⟨key2 x.a x.b,.int .i64 x.v,i⟩
def fU:Nat→List En→List MapEntry
 | _,[]=>[]
 | i,x::r=>x.entry i::fU (i+1) r
def lV(a b:Int):Nat→List En→Option (Nat × Int)
 | _,[]=>none
 | i,x::r=>if a=x.a∧b=x.b then some (i,x.v)else lV a b (i+1) r
theorem run_asking(a b:Int)(w:World):∀(L:List En) (i j:Nat),(Instr.findAsking 100 (key2 a b) (fU i L) j).run Tryz.prog w=.ok ((lV a b j L).map fun x=>(x.1,.int .i64 x.2)) w
 | [],i,j=>by simp[fU,Instr.findAsking,lV]
 | x::r,i,j=>by
   simp only[fU,Instr.findAsking,lV,Sem.run_bind,En.entry,run_eq2,Result.andThen_ok]
   by_cases h:a=x.a∧b=x.b
   ·simp[h]
   ·simp only[h,decide_false,Bool.false_eq_true,if_false]
    exact run_asking a b w r (i+1) (j+1)
theorem yY(a b:Int)(w:World)(L:List En):(Instr.findKey 100 (key2 a b) (fU 0 L)).run Tryz.prog w=.ok ((lV a b 0 L).map fun x=>(x.1,.int .i64 x.2)) w:=by
 unfold Instr.findKey
 simp only[Sem.run_bind,run_underlying Tryz.underlying100,Result.andThen_ok]
 cases L with
 | nil=>simp[fU,Instr.findNow,lV]
 | cons x r=>
   have:Instr.findNow (TypeDesc.array 2 3) (key2 a b) (fU 0 (x::r)) 0=none:=rfl
   rw[this]
   exact run_asking a b w (x::r) 0 0
theorem getMap{w:World}{r:Nat}{es:Array MapEntry}{c:Nat}(h:w.heap[r]? = some (.map es c)):(getObj r).run Tryz.prog w=.ok (.map es c) w:=by simp[getObj,Sem.run,h]
theorem setMap{w:World}{r:Nat}{es:Array MapEntry}{c:Nat}(o:Obj)(h:w.heap[r]? = some (.map es c)):(setObj r o).run Tryz.prog w=.ok () { w with heap:=w.heap.setIfInBounds r o }:=by simp[setObj,Sem.run,h]
def MapAt(w:World)(r:Nat)(L:List En):Prop:=w.heap[r]? = some (.map (fU 0 L).toArray L.length)
def pY(L:List En)(a b:Int):Int:=match lV a b 0 L with
 | some x=>x.2
 | none=>0
theorem zero3v:fJ Tryz.prog 3 (.int .i64 0):=by unfold fJ;kernel_rfl
theorem uP{w:World}{r:Nat}{L:List En}(h:MapAt w r L)(a b:Int):(Instr.lookup 99 (.map (some r)) (key2 a b) false).run Tryz.prog w=.ok (.int .i64 (pY L a b)) w:=by
 unfold Instr.lookup
 simp only[Sem.run_bind,run_underlying Tryz.underlying99,Result.andThen_ok,getMap h,Sem.run_pure,wO,yY]
 unfold pY
 cases lV a b 0 L with
 | none=>simp[y5 zero3v]
 | some x=>simp
theorem xX:∀(L:List En) (i:Nat),(fU i L).length=L.length
 | [],_=>rfl
 | _::r,i=>by simp[fU,xX r]
theorem oZ:∀(L:List En) (i j:Nat),(fU i L)[j]? = (L[j]?).map (fun x=>x.entry (i+j))
 | [],_,_=>by simp[fU]
 | x::r,i,0=>by simp[fU]
 | x::r,i,j+1=>by simp[fU,oZ r,Nat.add_assoc,Nat.add_comm 1]
theorem wX{a b:Int}:∀{L:List En} {i j:Nat} {v:Int},lV a b i L=some (j,v)→∃k x,j=i+k∧L[k]? = some x∧x=⟨a,b,v⟩
 | [],i,j,v,h=>by cases h
 | x::r,i,j,v,h=>by
   unfold lV at h
   split at h
   ·rename_i g
    cases h
    exact⟨0,x,rfl,rfl,by cases x;simp_all⟩
   ·obtain⟨k,y,h1,h2,h3⟩:=wX h
    exact⟨k+1,y,by omega,h2,h3⟩
def setW(w:World)(r:Nat)(o:Obj):World:={ w with heap:=w.heap.setIfInBounds r o }
theorem setW_below{w:World}{r B:Nat}(o:Obj)(h:B≤r):Below B w (setW w r o):=⟨rfl,rfl,rfl,by simp[setW],fun k hk=>by
 show(w.heap.setIfInBounds r o)[k]? = _
 rw[Array.getElem?_setIfInBounds_ne (by omega)]⟩
structure Only(r:Nat)(w w':World):Prop where
 below:∀B,B≤r→Below B w w'
 other:∀k,k≠r→w'.heap[k]? = w.heap[k]?
theorem Only.trans{r:Nat}{a b c:World}(h:Only r a b)(k:Only r b c):Only r a c:=⟨fun B hB=>(h.below B hB).trans (k.below B hB),fun i hi=>(k.other i hi).trans (h.other i hi)⟩
theorem Only.blk{r:Nat}{w w':World}(h:Only r w w'){b:Nat}{cs:List Value}{t:TypeId}(hb:bQ w b cs t)(hne:b≠r):bQ w' b cs t:=(h.other b hne).trans hb
theorem setW_only(w:World)(r:Nat)(o:Obj):Only r w (setW w r o):=⟨fun _ h=>setW_below _ h,fun k hk=>by
 show(w.heap.setIfInBounds r o)[k]? = _
 rw[Array.getElem?_setIfInBounds_ne (fun e=>hk e.symm)]⟩
theorem setW_at{w:World}{r:Nat}{x:Obj}(o:Obj)(h:w.heap[r]? = some x):(setW w r o).heap[r]? = some o:=by
 have:=(Array.getElem?_eq_some_iff.1 h).1
 show(w.heap.setIfInBounds r o)[r]? = _
 rw[Array.getElem?_setIfInBounds_self_of_lt this]
def incE(L:List En)(a b v:Int):List En:=match lV a b 0 L with
 | some x=>L.set x.1 ⟨a,b,v⟩
 | none=>L++[⟨a,b,v⟩]
def incR(a b v:Int):List En→List En
 | []=>[⟨a,b,v⟩]
 | x::r=>if a=x.a∧b=x.b then⟨a,b,v⟩::r else x::incR a b v r
def valR(a b:Int):List En→Int
 | []=>0
 | x::r=>if a=x.a∧b=x.b then x.v else valR a b r
theorem incE_eqF(a b v:Int):∀(L:List En) (i:Nat),(match lV a b i L with
  | some x=>L.set (x.1-i) ⟨a,b,v⟩
  | none=>L++[⟨a,b,v⟩])=incR a b v L
 | [],i=>rfl
 | x::r,i=>by
   unfold lV incR
   by_cases h:a=x.a∧b=x.b
   ·simp only[h,and_self,if_true,Nat.sub_self,List.set_cons_zero]
   ·simp only[h,if_false]
    have ih:=incE_eqF a b v r (i+1)
    cases hf:lV a b (i+1) r with
    | none=>rw[hf]at ih;simp only at ih ⊢;rw[←ih];rfl
    | some y=>
      rw[hf]at ih
      simp only at ih ⊢
      obtain⟨k,z,hk,_,_⟩:=wX (j:=y.1) (v:=y.2) hf
      have e:y.1-i=(y.1-(i+1))+1:=by omega
      rw[e,List.set_cons_succ,ih]
theorem incE_eq(L:List En)(a b v:Int):incE L a b v=incR a b v L:=incE_eqF a b v L 0
theorem valE_eqF(a b:Int):∀(L:List En) (i:Nat),(match lV a b i L with
  | some x=>x.2
  | none=>0)=valR a b L
 | [],i=>rfl
 | x::r,i=>by
   unfold lV valR
   by_cases h:a=x.a∧b=x.b
   ·simp only[h,and_self,if_true]
   ·simp only[h,if_false]
    exact valE_eqF a b r (i+1)
theorem valE_eq(L:List En)(a b:Int):pY L a b=valR a b L:=valE_eqF a b L 0
theorem valR_inc(a b v c d:Int):∀L:List En,valR c d (incR a b v L)=if c=a∧d=b then v else valR c d L
 | []=>by simp[incR,valR]
 | x::r=>by
   unfold incR
   by_cases h:a=x.a∧b=x.b
   ·simp only[h,and_self,if_true,valR]
    split<;>rfl
   ·simp only[h,if_false,valR,valR_inc a b v c d r]
    by_cases h2:c=x.a∧d=x.b
    ·have:¬(c=a∧d=b):=fun e=>h ⟨by rw[←e.1];exact h2.1,by rw[←e.2];exact h2.2⟩
     simp[h2,this]
     intro e1 e2
     exact absurd ⟨h2.1.trans e1,h2.2.trans e2⟩ this
    ·simp[h2]
theorem valE_inc(L:List En)(a b v c d:Int):pY (incE L a b v) c d=if c=a∧d=b then v else pY L c d:=by
 rw[valE_eq,incE_eq,valR_inc,valE_eq]
theorem run_entry2{w:World}{r:Nat}{L:List En}(h:MapAt w r L)(a b:Int):∃w1 i,(Instr.mapEntry 99 (.map (some r)) (key2 a b)).run Tryz.prog w=.ok (.tuple #[.int .i64 (pY L a b),.int .i64 (i:Nat)]) w1∧
  Only r w w1∧(∃L1,MapAt w1 r L1∧pY L1 a b=pY L a b)∧(∀v:Int,∃w2,(Instr.entryStore 99 (.map (some r)) (.int .i64 (i:Nat)) (.int .i64 v)).run Tryz.prog w1=.ok () w2∧MapAt w2 r (incE L a b v)∧Only r w1 w2):=by
 have hst:∀(w1:World) (L1:List En) (i:Nat),MapAt w1 r L1→(hi:i<L1.length)→∀v:Int,∃w2,(Instr.entryStore 99 (.map (some r)) (.int .i64 (i:Nat)) (.int .i64 v)).run Tryz.prog w1=.ok () w2∧MapAt w2 r (L1.set i { L1[i]with v:=v })∧Only r w1 w2:=by
  intro w1 L1 i h1 hi v
  have hfi:(fU 0 L1).toArray.findIdx? (fun e=>(e.born:Int) == (i:Int))=some i:=by
   rw[List.findIdx?_toArray,List.findIdx?_eq_some_iff_getElem]
   have hg:∀(j:Nat) (hj:j<(fU 0 L1).length),((fU 0 L1)[j]).born=j:=fun j hj=>by
    have:=oZ L1 0 j
    rw[List.getElem?_eq_getElem hj,List.getElem?_eq_getElem (by rw[xX]at hj;exact hj)]at this
    simp at this
    rw[this]
    rfl
   refine⟨by rw[xX];exact hi,by rw[hg];simp,fun j hj=>?_⟩
   rw[hg]
   simp
   omega
  refine⟨setW w1 r (.map ((fU 0 L1).toArray.modify i fun e=>{ e with val:=.int .i64 v }) L1.length),?_,?_,setW_only _ _ _⟩
  ·unfold Instr.entryStore
   simp only[Sem.run_bind,getMap h1,Result.andThen_ok,asInt,asIntOf,Sem.run_pure,hfi,setMap _ h1]
   rfl
  ·unfold MapAt
   rw[setW_at _ h1,List.length_set]
   congr 2
   apply Array.ext'
   apply List.ext_getElem?
   intro j
   have e1:=oZ (L1.set i { L1[i]with v:=v }) 0 j
   simp only[List.toList_toArray]
   rw[e1]
   have e2:((fU 0 L1).toArray.modify i fun e=>{ e with val:=Value.int .i64 v }).toList[j]? = if j=i then((fU 0 L1)[j]?).map (fun e=>{ e with val:=Value.int .i64 v })else(fU 0 L1)[j]? := by
    rw[Array.getElem?_toList,Array.getElem?_modify]
    by_cases hji:i=j
    ·subst hji;simp
    ·rw[if_neg hji,if_neg (fun e=>hji e.symm)];simp
   rw[e2,oZ,List.getElem?_set]
   by_cases hji:j=i
   ·subst hji
    simp[hi,En.entry]
   ·rw[if_neg hji,if_neg (fun e=>hji e.symm)]
 have hv0:lV a b 0 L=none→pY (L++[⟨a,b,0⟩]) a b=pY L a b:=fun h=>by
  have e:L++[⟨a,b,0⟩]=incE L a b 0:=by unfold incE;rw[h]
  rw[e,valE_inc,if_pos ⟨rfl,rfl⟩]
  unfold pY
  rw[h]
 unfold Instr.mapEntry
 simp only[Sem.run_bind,run_underlying Tryz.underlying99,Result.andThen_ok,getMap h,wO,yY]
 have hvE:∀o,lV a b 0 L=o→pY L a b=(match o with|some x=>x.2|none=>0):=fun o h=>by unfold pY;rw[h]
 cases hf:lV a b 0 L with
 | some x=>
   obtain⟨j,v0⟩:=x
   obtain⟨k,x,rfl,hx,rfl⟩:=wX hf
   rw[Nat.zero_add]at hf ⊢
   rw[hvE _ hf]
   unfold incE
   rw[hf]
   have hk:=(List.getElem?_eq_some_iff.1 hx).1
   have hL:L[k]=⟨a,b,v0⟩:=by rw[List.getElem?_eq_getElem hk]at hx;exact Option.some.inj hx
   have hge:(fU 0 L).toArray[k]? = some (En.entry ⟨a,b,v0⟩ k):=by
    have:=oZ L 0 k
    rw[hx]at this
    simpa using this
   have hkts:(Instr.keyThatStays (key2 a b) (key2 a b)).run Tryz.prog w=.ok (key2 a b) w:=by
    have:Instr.sameBits 10000 (key2 a b) (key2 a b)=true:=by
     simp[Instr.sameBits,key2]
    simp[Instr.keyThatStays,this]
   have hmod:((fU 0 L).toArray.modify k fun e=>{ e with key:=key2 a b })=(fU 0 L).toArray:=by
    apply Array.ext'
    apply List.ext_getElem?
    intro j
    have e2:((fU 0 L).toArray.modify k fun e=>{ e with key:=key2 a b }).toList[j]? = if j=k then((fU 0 L)[j]?).map (fun e=>{ e with key:=key2 a b })else(fU 0 L)[j]? := by
     rw[Array.getElem?_toList,Array.getElem?_modify]
     by_cases hji:k=j
     ·subst hji;simp
     ·rw[if_neg hji,if_neg (fun e=>hji e.symm)];simp
    rw[e2]
    by_cases hjk:j=k
    ·subst hjk
     have:(fU 0 L)[j]? = some (En.entry ⟨a,b,v0⟩ j):=by simpa using hge
     simp[this,En.entry]
    ·rw[if_neg hjk]
   refine⟨setW w r (.map (fU 0 L).toArray L.length),k,?_,setW_only _ _ _,⟨L,setW_at _ h,hvE _ hf⟩,fun v=>?_⟩
   ·simp only[Option.map_some,hge,Option.getD_some,En.entry,Sem.run_bind,hkts,Result.andThen_ok,hmod,setMap _ h,Sem.run_pure,goInt]
    rfl
   ·obtain⟨w2,h1,h2,h3⟩:=hst (setW w r (.map (fU 0 L).toArray L.length)) L k (setW_at _ h) hk v
    rw[hL]at h2
    exact⟨w2,h1,h2,h3⟩
 | none=>
   rw[hvE _ hf]
   unfold incE
   rw[hf]
   have hm:MapAt (setW w r (.map ((fU 0 L).toArray.push ⟨key2 a b,.int .i64 0,L.length⟩) (L.length+1))) r (L++[⟨a,b,0⟩]):=by
    unfold MapAt
    rw[setW_at _ h]
    have e:(fU 0 L).toArray.push ⟨key2 a b,.int .i64 0,L.length⟩=(fU 0 (L++[⟨a,b,0⟩])).toArray:=by
     apply Array.ext'
     apply List.ext_getElem?
     intro j
     simp only[List.push_toArray,List.toList_toArray]
     rw[oZ,List.getElem?_append,xX,List.getElem?_append]
     split
     ·rw[oZ]
     ·rename_i hj
      by_cases e:j=L.length
      ·subst e;simp[En.entry]
      ·have:j-L.length≠0:=by omega
       obtain⟨m,hm⟩:∃m,j-L.length=m+1:=⟨j-L.length-1,by omega⟩
       simp[hm]
    rw[e]
    simp
   refine⟨setW w r (.map ((fU 0 L).toArray.push ⟨key2 a b,.int .i64 0,L.length⟩) (L.length+1)),L.length,?_,setW_only _ _ _,⟨_,hm,by rw[hv0 hf,hvE _ hf]⟩,fun v=>?_⟩
   ·simp only[Option.map_none,Sem.run_bind,y5 zero3v,Result.andThen_ok,setMap _ h,Sem.run_pure,goInt]
    rfl
   ·obtain⟨w2,h1,h2,h3⟩:=hst _ _ L.length hm (by simp) v
    refine⟨w2,h1,?_,h3⟩
    have e:(L++[(⟨a,b,0⟩:En)]).set L.length { (L++[(⟨a,b,0⟩:En)])[L.length]'(by simp)with v:=v }=L++[⟨a,b,v⟩]:=by simp
    rw[e]at h2
    exact h2
theorem MapAt.ext{w w':World}{r:Nat}{L:List En}(h:MapAt w r L)(hE:Ext w w'):MapAt w' r L:=by
 have hlt:=(Array.getElem?_eq_some_iff.1 h).1
 exact(Below.block hE r hlt).trans h
def mE(l:List Pt)(a b:Int):Nat:=(l.filter fun p=>decide (p.kind=a∧p.target=b)).length
def pG:List Pt→List Pt→Bool
 | _,[]=>true
 | s,p::r=>!((shapeOf p.kind).once&&decide (0<mE s p.kind p.target))&&pG (s++[p]) r
def kY(l:List Pt):Bool:=pG [] l
def bZ(t:List Nd)(p:Pt):Int:=if iL p=false then 4 else if jA t p=false then 280 else if dM (nd t p.target) p=false then 4 else 0
def bY(t:List Nd):List Pt→Int
 | []=>0
 | p::r=>if bZ t p≠0 then bZ t p else bY t r
def dU(t:List Nd)(l:List Pt):Int:=
 if eG t true≠0 then 4 else if 1000<l.length then 3 else if bY t l≠0 then bY t l else if kY l then 0 else 281
theorem vC(l:List Pt)(p:Pt)(a b:Int):mE (l++[p]) a b=mE l a b+(if p.kind=a∧p.target=b then 1 else 0):=by
 unfold mE
 rw[List.filter_append,List.length_append]
 congr 1
 by_cases h:p.kind=a∧p.target=b<;>simp[h]
theorem cntP_le(l:List Pt)(a b:Int):mE l a b≤l.length:=List.length_filter_le _ _
theorem sP{t:List Nd}{p:Pt}(h:bZ t p=0):iL p=true∧jA t p=true∧dM (nd t p.target) p=true:=by
 unfold bZ at h
 split at h
 ·omega
 ·split at h
  ·omega
  ·split at h
   ·omega
   ·simp_all
theorem mW{t:List Nd}:∀{l:List Pt},bY t l=0→∀p∈l,bZ t p=0
 | [],_,p,hp=>by cases hp
 | q::r,h,p,hp=>by
   unfold bY at h
   split at h
   ·rename_i g;exact absurd h g
   ·rename_i g
    rcases List.mem_cons.1 hp with rfl|e
    ·exact Decidable.not_not.1 g
    ·exact mW h p e
theorem mX{p:Pt}(h:iL p=true):1≤p.kind∧p.kind≤10:=by
 simp only[iL,Bool.and_eq_true,decide_eq_true_eq]at h
 exact⟨h.1.1.1,h.1.1.2⟩
theorem rV{t:List Nd}{root:Bool}:∀{k:Nat} {s:wP},gW t root k=some s→∀i<k,∃s',gW t root i=some s'∧∃s'',iC t root s' i=some s''
 | 0,_,_,i,hi=>absurd hi (by omega)
 | k+1,s,h,i,hi=>by
   unfold gW at h
   cases hk:gW t root k with
   | none=>rw[hk]at h;cases h
   | some s'=>
     rw[hk]at h
     by_cases e:i=k
     ·subst e;exact⟨s',hk,s,h⟩
     ·exact rV hk i (by omega)
theorem allB_kinds{t:List Nd}(h:eG t true=0):∀i:Nat,i<t.length→1≤(nd t i).kind∧(nd t i).kind≤6∨((nd t i).kind<7∧¬fC (nd t i).kind=kZ):=fun i hi=>by
 unfold eG at h
 split at h
 ·omega
 ·cases hr:gW t true t.length with
  | none=>rw[hr]at h;simp at h
  | some s=>
    obtain⟨s',h1,s'',h2⟩:=rV hr i hi
    unfold iC at h2
    simp only at h2
    split at h2
    ·cases h2
    ·split at h2
     ·split at h2
      ·rename_i g;left;omega
      ·cases h2
     ·split at h2
      ·cases h2
      ·split at h2
       ·cases h2
       ·rename_i g
        right
        simp only[Bool.not_eq_false]at g
        unfold kN at g
        simp only[Bool.and_eq_true,decide_eq_true_eq,Bool.not_eq_true',decide_eq_false_iff_not]at g
        exact⟨g.1.1.1,g.1.1.2⟩
theorem allB_kind6{t:List Nd}(h:eG t true=0):∀x∈t,x.kind≤6:=fun x hx=>by
 obtain⟨i,hi,rfl⟩:=List.mem_iff_getElem.1 hx
 have:=allB_kinds h i hi
 rw[eT hi]at this
 omega
theorem mkMap(w:World):(Instr.makeMap 99 none).run Tryz.prog w=.ok (.map (some w.heap.size)) (w.alloc (.map #[] 0)):=rfl
theorem jI:fJ Tryz.prog 41 (.agg #[.int .u8 0,.int .i64 0,.string ⟨#[]⟩,.slice none 0 0]):=by unfold fJ;kernel_rfl
theorem zero100:fJ Tryz.prog 100 (.agg #[.int .i64 0,.int .i64 0]):=by unfold fJ;kernel_rfl
theorem run_build100(a b:Int)(w:World):(Instr.build 100 #[(0,.int .i64 a),(1,.int .i64 b)]).run Tryz.prog w=.ok (key2 a b) w:=by kernel_rfl
theorem _root_.Go.V.gM.one{w:World}{r:aR}{p:Pt}(h:gM w r p):r.nodes.oneCell'=true:=by
 obtain⟨o,c,hv,_⟩:=h.nodes.open_
 rw[hv];rfl
theorem _root_.Go.V.gM.wf{w:World}{r:aR}{p:Pt}(h:gM w r p):RWf r:=⟨by rw[h.kind];exact h.wkind,by rw[h.target];exact h.wtarget,h.one⟩
set_option maxHeartbeats 1600000 in
theorem PCheck_con(vt vl:Value)(t:List Nd)(l:List Pt)(w:World)(ht:aJ w vt t)(hl:PartsAt w vl l)(hG:jV w) :
  bV Tryz.prog 17 #[vt,vl] w (fun v w'=>v=.int .i64 (dU t l)∧Ext w w'):=by
 have hll:=hl.len
 have htl:=ht.len
 obtain⟨lo,lc,rfl,l1,l2,l3,l4⟩:=hl.open_
 have ht0:=ht
 obtain⟨tO,tc,rfl,t1,t2,t3,t4⟩:=ht.open_
 refine enter aB Tryz.func17 (aV rfl) rfl rfl rfl ?_
 refine aA.mk _ (Check_con t _ _ ht0 hG) ?_
 rintro v w1 ⟨rfl,hE1⟩
 refine Cond.dH (fun g1=>?_) (fun g1=>?_)
 ·exact And.intro (by simp[aC,dU,g1]) hE1
 have hk6:=allB_kind6 g1
 refine Cond.dec (fun g2=>?_) (fun g2=>?_)
 ·have:1000<l.length:=by omega
  exact And.intro (by simp[aC,dU,g1,this]) hE1
 have hlen:l.length≤1000:=by omega
 have hsp:dU t l=if bY t l≠0 then bY t l else if kY l then 0 else 281:=by
  unfold dU
  rw[if_neg (by simp[g1]),if_neg (by omega)]
 rw[hsp]
 refine aH.mk (X:=Nat) (fun i=>[(0,.slice tO t.length tc),(1,.slice lo l.length lc),(17,.slice lo l.length lc),(18,.int .i64 l.length),(19,.int .i64 i)])
  (fun i w'=>Ext w w'∧i≤l.length∧bY t l=bY t (l.drop i)) (fun i=>l.length-i) 0 ⟨hE1,Nat.zero_le _,rfl⟩ ⟨rfl,rfl,rfl,rfl,rfl,trivial⟩ ?_
 rintro i w2 ⟨hE2,hi,hf⟩
 refine Cond.dec (fun g3=>?_) (fun g3=>?_)
 ·have hil:i<l.length:=by omega
  obtain⟨a,r,ha,hc,hp⟩:=l4 _ hE2 i hil
  have hf':bY t l=if bZ t l[i]≠0 then bZ t l[i]else bY t (l.drop (i+1)):=by
   rw[hf,List.drop_eq_getElem_cons hil];rfl
  generalize l[i]=p at *
  refine Idx.mk a ha (by omega) (by omega) ?_
  refine Load.here (hc.all' rfl) ?_
  refine aG.alloc _ [.int .u8 0,.int .i64 0,.string ⟨#[]⟩,.slice none 0 0] jI rfl fun b w3 n3=>?_
  refine bA.store b 0 _ r.cells 41 rfl rfl (by kernel_rfl) n3.blk (by simp[aR.cells]) hp.cells_one fun w4 hU4=>?_
  have n4:=n3.upd hU4
  have hcb:Cells w4 ⟨b,0,none⟩ r.cells:=n4.blk.cells
  have hE4:=hE2.trans n4.ext
  have hp4:=hp.ext n4.ext
  refine Load.here (hcb.all' rfl) ?_
  refine aA.mk _ (alone_con r p _ hp4 (hG.ext hE4)) ?_
  rintro v w5 ⟨rfl,hE5⟩
  have hE5':=hE4.trans hE5
  refine Cond.neg (fun g4=>?_) (fun g4=>?_)
  ·have he:bZ t p=4:=by simp[bZ,g4]
   refine And.intro ?_ hE5'
   have hfe:=hf'
   rw[he,if_pos (by decide)]at hfe
   rw[hfe,if_pos (by decide)]
   rfl
  refine Load.here ((hcb.ext hE5).all' rfl) ?_
  have hkind:=mX g4
  refine aA.mk _ (aimed_con _ t r p _ (ht0.ext hE5') (hp4.ext hE5) (hG.ext hE5') hkind.2 (fun x hx=>by have:=hk6 x hx;omega)) ?_
  rintro v w6 ⟨rfl,hE6⟩
  have hE6':=hE5'.trans hE6
  refine Cond.neg (fun g5=>?_) (fun g5=>?_)
  ·have he:bZ t p=280:=by simp[bZ,g4,g5]
   refine And.intro ?_ hE6'
   have hfe:=hf'
   rw[he,if_pos (by decide)]at hfe
   rw[hfe,if_pos (by decide)]
   rfl
  have htg:0≤p.target∧p.target<t.length:=by
   simp only[jA,Bool.and_eq_true,decide_eq_true_eq]at g5
   exact g5.1
  obtain⟨tt,htt⟩:∃tt:Nat,p.target=(tt:Int):=⟨p.target.toNat,by omega⟩
  have httl:tt<t.length:=by omega
  have hEd:=(hE5.trans hE6).trans (Ext.drew w6)
  have hE7:=hE4.trans hEd
  obtain⟨at_,hat,hct⟩:=t4 _ hE7 tt httl
  have hrt:r.target=(tt:Int):=by rw[hp.target,htt]
  have hcd:=hcb.ext hEd
  have hct1:r.cells[1]? = some (.int .i64 (tt:Int)):=by rw[←hrt];rfl
  refine aQ.mk aB mixed (allT 0 6++[(6,false),(7,true),(8,true)]) [6] (by kernel_rfl) (fun w'=>w'=w6.drew) rfl ?_
  refine Load.here (hcd.one (k:=1) hct1) ?_
  refine Idx.mk at_ hat (by omega) (by omega) ?_
  refine Load.here (hct.all' rfl) ?_
  refine Load.here (hcd.all' rfl) ?_
  refine aA.mk _ (becomes_con t[tt] r p _ (ht.wf _ (List.getElem_mem httl)) (hp4.ext hEd) (hG.ext hE7)) ?_
  rintro v w8 ⟨rfl,hE8⟩
  have hE8':=hE7.trans hE8
  have hnd:nd t p.target=t[tt]:=by rw[htt];exact eT httl
  refine Cond.neg (fun g6=>?_) (fun g6=>?_)
  ·have he:bZ t p=4:=by simp[bZ,g4,g5,hnd,g6]
   refine And.intro ?_ hE8'
   have hfe:=hf'
   rw[he,if_pos (by decide)]at hfe
   rw[hfe,if_pos (by decide)]
   rfl
  refine Ar.aM (i+1) (by omega) (by omega) ?_
  refine⟨i+1,⟨hE8',by omega,?_⟩,by omega,rfl,rfl,rfl,rfl,rfl,trivial⟩
  have he:bZ t p=0:=by simp[bZ,g4,g5,hnd,g6]
  rw[hf',if_neg (by simp[he])]
 have hil:i=l.length:=by omega
 have hf0:bY t l=0:=by
  rw[hf,hil,List.drop_length];rfl
 rw[if_neg (by simp[hf0])]
 have hparts:=mW hf0
 refine aG.mk _ _ (mkMap w2) ?_
 have hm0:MapAt (w2.alloc (.map #[] 0)) w2.heap.size []:=by
  show(w2.heap.push (.map #[] 0))[w2.heap.size]? = _
  simp[fU]
 have hE3:Ext w (w2.alloc (.map #[] 0)):=hE2.trans ((Below.refl _ w2).alloc (Nat.le_refl _) _)
 have hrb:w.heap.size≤w2.heap.size:=hE2.sz
 generalize hrm:w2.heap.size=rm at *
 refine aH.mk (X:=Nat × List En) (fun x=>[(1,.slice lo l.length lc),(7,.map (some rm)),(43,.slice lo l.length lc),(44,.int .i64 l.length),(45,.int .i64 x.1)])
  (fun x w'=>Ext w w'∧x.1≤l.length∧MapAt w' rm x.2∧(∀a b,pY x.2 a b=mE (l.take x.1) a b)∧kY l=pG (l.take x.1) (l.drop x.1)) (fun x=>l.length-x.1) (0,[])
  ⟨hE3,Nat.zero_le _,hm0,fun a b=>rfl,rfl⟩ ⟨rfl,rfl,rfl,rfl,rfl,trivial⟩ ?_
 clear hE2 hf hE3 hm0 hi g3
 rintro⟨j,L⟩ w4 ⟨hE4,hj,hm,hcnt,hon⟩
 simp only at hj hm hcnt hon ⊢
 refine Cond.dec (fun g3=>?_) (fun g3=>?_)
 rotate_left
 ·have hjl:j=l.length:=by omega
  have:kY l=true:=by rw[hon,hjl,List.drop_length];rfl
  exact And.intro (by simp[aC,this]) hE4
 have hjl:j<l.length:=by omega
 obtain⟨a,r,ha,hc,hp⟩:=l4 _ hE4 j hjl
 have hon':kY l=(!((shapeOf l[j].kind).once&&decide (0<mE (l.take j) l[j].kind l[j].target))&&pG (l.take (j+1)) (l.drop (j+1))):=by
  rw[hon,List.drop_eq_getElem_cons hjl,List.take_succ_eq_append_getElem hjl];rfl
 have hcs:∀a b,mE (l.take (j+1)) a b=mE (l.take j) a b+(if l[j].kind=a∧l[j].target=b then 1 else 0):=fun a b=>by
  rw[List.take_succ_eq_append_getElem hjl];exact vC _ _ _ _
 have hkind:=mX (sP (hparts _ (List.getElem_mem hjl))).1
 have hcl:=cntP_le (l.take j) l[j].kind l[j].target
 rw[List.length_take]at hcl
 generalize l[j]=p at *
 have e1:=hp.kind;have e2:=hp.target
 refine Idx.mk a ha (by omega) (by omega) ?_
 refine Load.here (hc.all' rfl) ?_
 refine aG.alloc _ [.int .u8 0,.int .i64 0,.string ⟨#[]⟩,.slice none 0 0] jI rfl fun b w5 n5=>?_
 refine bA.store b 0 _ r.cells 41 rfl rfl (by kernel_rfl) n5.blk (by simp[aR.cells]) hp.cells_one fun w6 hU6=>?_
 have n6:=n5.upd hU6
 have hcb:Cells w6 ⟨b,0,none⟩ r.cells:=n6.blk.cells
 have hE6:=hE4.trans n6.ext
 have c0:r.cells[0]? = some (.int .u8 p.kind):=by rw[←e1];rfl
 have c1:r.cells[1]? = some (.int .i64 p.target):=by rw[←e2];rfl
 refine Load.here (hcb.one (k:=0) c0) ?_
 refine Ar.i64 (by omega) ?_
 refine Load.here (hcb.one (k:=1) c1) ?_
 refine aG.mk _ _ (run_build100 _ _ _) ?_
 refine aG.alloc _ [.int .i64 0,.int .i64 0] zero100 rfl fun bk w7 n7=>?_
 refine bA.store bk 0 _ [.int .i64 p.kind,.int .i64 p.target] 100 rfl rfl (by kernel_rfl) n7.blk (by simp) (by simp[Value.oneCell']) fun w8 hU8=>?_
 have n8:=n7.upd hU8
 have hE8:=hE6.trans n8.ext
 have hm8:=((hm.ext n6.ext).ext n8.ext).ext (Ext.drew w8)
 have hkb:Cells w8 ⟨bk,0,none⟩ [.int .i64 p.kind,.int .i64 p.target]:=n8.blk.cells
 have hEd:=Ext.drew w8
 obtain⟨wa,en,hrun1,hB1,⟨L1,hL1,hvL1⟩,hrun2⟩:=run_entry2 hm8 p.kind p.target
 have hv8:=hcnt p.kind p.target
 obtain⟨wb,hr2,hmb,hBb⟩:=hrun2 (pY L p.kind p.target+1)
 have hlk:=uP hm8 p.kind p.target
 have hlk1:=uP hL1 p.kind p.target
 rw[hvL1]at hlk1
 have hlt:=(Array.getElem?_eq_some_iff.1 hm).1
 have s5:=n5.sz;have s6:=n6.sz;have s7:=n7.sz;have s8:=n8.sz
 have eb:=n5.b_eq;have ebk:=n7.b_eq
 have hOab:=hB1.trans hBb
 have hEd8:Ext w w8.drew:=hE8.trans hEd
 have hBw:Ext w wb:=Below.trans hEd8 (hOab.below _ hrb)
 have hbb:bQ wb b r.cells 41:=hOab.blk ((n6.blk.ext n8.ext).ext hEd) (by omega)
 have hbkb:bQ wb bk [.int .i64 p.kind,.int .i64 p.target] 100:=hOab.blk (n8.blk.ext hEd) (by omega)
 refine aQ.script aB mixed (Scr.takes [0,1] (.both 2 (.take 3 (.carry 4 (.take 5 (.carry 6 .done)))) 4 (.take 5 (.carry 2 (.take 3 (.carry 6 .done)))))) [2,4,6] (by kernel_rfl) (fun w'=>w'=w8.drew) rfl
  (X:=Unit) (fun _=>[(1,.slice lo l.length lc),(7,.map (some rm)),(9,.pointer (some ⟨b,0,none⟩)),(10,.pointer (some ⟨bk,0,none⟩)),(43,.slice lo l.length lc),(44,.int .i64 l.length),(45,.int .i64 j)]) (fun _ w'=>w'=wb) ?_ ?_
 ·refine Load.here ((hkb.ext hEd).all' rfl) ?_
  refine And.intro ?_ ?_
  ·refine aG.mk _ _ hlk ?_
   refine Ar.i64 (by omega) ?_
   refine aG.mk _ _ hrun1 ?_
   refine bA.mk _ hr2 ?_
   exact⟨(),rfl,rfl,rfl,rfl,rfl,rfl,rfl,rfl,trivial⟩
  ·refine aG.mk _ _ hrun1 ?_
   refine aG.mk _ _ hlk1 ?_
   refine Ar.i64 (by omega) ?_
   refine bA.mk _ hr2 ?_
   exact⟨(),rfl,rfl,rfl,rfl,rfl,rfl,rfl,rfl,trivial⟩
 rintro _ w9 hw9
 subst hw9
 have hsh:=(y7 hG (k:=p.kind) (by omega) (by omega)).ext hBw
 have hvn:∀a b,pY (incE L p.kind p.target (pY L p.kind p.target+1)) a b=mE (l.take (j+1)) a b:=fun a b=>by
  rw[valE_inc,hcs,hcnt]
  by_cases h:a=p.kind∧b=p.target
  ·obtain⟨rfl,rfl⟩:=h
   rw[if_pos ⟨rfl,rfl⟩,if_pos ⟨rfl,rfl⟩]
   omega
  ·rw[if_neg h,if_neg (fun e=>h ⟨e.1.symm,e.2.symm⟩),hcnt]
   omega
 have hlk9:=uP hmb p.kind p.target
 have hv9:=hvn p.kind p.target
 rw[hcs,if_pos ⟨rfl,rfl⟩]at hv9
 generalize pY (incE L p.kind p.target (pY L p.kind p.target+1)) p.kind p.target=v9 at *
 generalize shapeOf p.kind=s at *
 obtain⟨sc,st,so,tg⟩:=s
 have hnext:kY l=pG (l.take (j+1)) (l.drop (j+1))→(Ext w w9∧j+1≤l.length∧MapAt w9 rm (incE L p.kind p.target (pY L p.kind p.target+1))∧(∀a b,pY (incE L p.kind p.target (pY L p.kind p.target+1)) a b=mE (l.take (j+1)) a b)∧kY l=pG (l.take (j+1)) (l.drop (j+1))):=
  fun h=>⟨hBw,by omega,hmb,hvn,h⟩
 refine Load.here (hbb.cells.one (k:=0) c0) ?_
 refine Need.mk ⟨by omega,by omega⟩ ?_
 refine Load.here (hsh.one (k:=2) rfl) ?_
 cases so
 ·repeat (first|refine gA ?_|refine gB ?_|refine gC ?_)
  refine Cond.no ?_
  refine Ar.aM (j+1) (by omega) (by omega) ?_
  exact⟨(j+1,_),hnext (by rw[hon'];simp),by show l.length-(j+1)<l.length-j;omega,rfl,rfl,rfl,rfl,rfl,trivial⟩
 ·repeat (first|refine gA ?_|refine gB ?_|refine gC ?_)
  refine Load.here (hbkb.cells.all' rfl) ?_
  repeat (first|refine gA ?_|refine gB ?_|refine gC ?_)
  refine aG.mk _ _ hlk9 ?_
  repeat (first|refine gA ?_|refine gB ?_|refine gC ?_)
  refine Cond.dec (fun g4=>?_) (fun g4=>?_)
  ·refine And.intro ?_ hBw
   have:kY l=false:=by
    rw[hon']
    have:0<mE (l.take j) p.kind p.target:=by omega
    simp[this]
   rw[this]
   rfl
  ·refine Ar.aM (j+1) (by omega) (by omega) ?_
   exact⟨(j+1,_),hnext (by
    rw[hon']
    have:¬0<mE (l.take j) p.kind p.target:=by omega
    simp[this]),by show l.length-(j+1)<l.length-j;omega,rfl,rfl,rfl,rfl,rfl,trivial⟩
end Go.Proofs.YtelffdgcikceaaaGreatDoor
end
section
namespace Go.V
def joinX0{Y:Type}(i0:Nat)(E:Y→Env)(J:Y→World→Prop)(K:Exit→Env→World→Prop):Exit→Env→World→Prop:=fun e env' w'=>match e with
 | .exit i=>match Nat.beq i i0 with
   | true=>∃s,J s w'∧Sub env' (E s)
   | false=>K (.exit i) env' w'
 | e=>K e env' w'
theorem aH.joinAt{X:Type}{body:(Exit→Env→World→Prop)→Env→World→Prop}{K:Exit→Env→World→Prop}{env:Env}{w:World}(i0:Nat)
  (E:X→Env) (I:X→World→Prop) (μ:X→Nat) (x0:X) {Y:Type} (E2:Y→Env) (J:Y→World→Prop) (h0:I x0 w) (hs:Sub env (E x0))
  (hr:∀x w,I x w→body (fun e env' w'=>match e with
   | .normal=>∃x',I x' w'∧μ x'<μ x∧Sub env' (E x')
   | e=>joinX0 i0 E2 J K e env' w') (E x) w) (h:∀y w',J y w'→K (.exit i0) (E2 y) w'):aH body K env w:=
 ⟨⟨joinX0 i0 E2 J K,X,E,I,μ,x0,fun e env' w' hj=>by
   cases e with
   | exit i=>
     replace hj:(match Nat.beq i i0 with|true=>∃s,J s w'∧Sub env' (E2 s)|false=>K (.exit i) env' w'):=hj
     cases hb:Nat.beq i i0 with
     | true=>
       rw[hb]at hj
       obtain⟨s,h1,h2⟩:=hj
       rw[Nat.eq_of_beq_eq_true hb]
       exact .inr ⟨_,h2,h s w' h1⟩
     | false=>
       rw[hb]at hj
       exact .inl hj
   | _=>exact .inl hj,h0,hs,hr⟩⟩
theorem eO.front{w:World}{o:Option Addr}{n c sz:Nat}{xs:List (List Value)}(h:eO w (.slice o n c) sz xs){k c2:Nat}(hk:k≤xs.length)(h1:k≤c2)(h2:c2≤c)(h3:o=none→c2=0):eO w (.slice o k c2) sz (xs.take k):=by
 obtain⟨o',c',hv,e1,e2,e3⟩:=h.ex
 simp only[Value.slice.injEq]at hv
 obtain⟨rfl,rfl,rfl⟩:=hv
 exact .mk' (by simp;omega) h1 (by omega) h3 ((h.el _ _ _ rfl).take k)
theorem eO.back{w:World}{o:Option Addr}{n c sz:Nat}{xs:List (List Value)}(h:eO w (.slice o n c) sz xs){k:Nat}(hk:k≤xs.length) :
  eO w (.slice (if(c:Int).toNat=(k:Int).toNat then o else o.map (fun x=>x.add ((k:Int).toNat*sz))) ((n:Int).toNat-(k:Int).toNat) ((c:Int).toNat-(k:Int).toNat)) sz (xs.drop k):=by
 obtain⟨o',c',hv,e1,e2,e3⟩:=h.ex
 simp only[Value.slice.injEq]at hv
 obtain⟨rfl,rfl,rfl⟩:=hv
 have hel:=(h.el _ _ _ rfl).drop k
 simp only[Int.toNat_natCast]
 split
 ·rename_i e
  have hd:xs.drop k=[]:=List.drop_eq_nil_of_le (by omega)
  rw[hd]
  exact .mk' (by simp;omega) (by omega) (by omega) (fun hn=>by have:=e3 hn;omega) (El.nil _ _ _)
 ·rename_i e
  refine .mk' (by simp) (by omega) (by omega) (fun hn=>?_) hel
  have:=e3 (by cases o<;>simp_all)
  omega
end Go.V
namespace Go.Proofs.YtelffdgcikceaaaGreatDoor
open Go.V
open Go.RowKit (Below)
def kQ(x y:aR):Bool:=decide (y.kind=x.kind)&&decide (y.target=x.target)
def yR:Nat→List aR→List (List aR)
 | 0,_=>[]
 | _,[]=>[]
 | n+1,x::r=>(x::r.takeWhile (kQ x))::yR n (r.dropWhile (kQ x))
def rowsOf(l:List aR):List (List aR):=yR l.length l
theorem lU{α:Type}(p:α→Bool)(l:List α):(l.dropWhile p).length≤l.length:=(List.dropWhile_sublist _).length_le
theorem rowsF_fuel:∀(n m:Nat) (l:List aR),l.length≤n→l.length≤m→yR n l=yR m l
 | 0,m,l,h1,_=>by
   have:l=[]:=List.eq_nil_of_length_eq_zero (by omega)
   subst this
   cases m<;>rfl
 | n+1,0,l,_,h2=>by
   have:l=[]:=List.eq_nil_of_length_eq_zero (by omega)
   subst this
   rfl
 | n+1,m+1,[],_,_=>rfl
 | n+1,m+1,x::r,h1,h2=>by
   have:=lU (kQ x) r
   simp only[List.length_cons]at h1 h2
   simp only[yR]
   rw[rowsF_fuel n m _ (by omega) (by omega)]
theorem rowsOf_cons(x:aR)(r:List aR):rowsOf (x::r)=(x::r.takeWhile (kQ x))::rowsOf (r.dropWhile (kQ x)):=by
 unfold rowsOf
 have:=lU (kQ x) r
 show _::yR r.length (r.dropWhile (kQ x))=_
 rw[rowsF_fuel r.length _ _ this (Nat.le_refl _)]
theorem xI{α:Type}{p:α→Bool}:∀{l:List α} {k:Nat},(∀i (h:i<l.length),i<k→p l[i]=true)→k≤l.length→(∀h:k<l.length,p l[k]=false)→l.takeWhile p=l.take k∧l.dropWhile p=l.drop k
 | [],k,_,h2,_=>by simp
 | x::r,0,_,_,h3=>by
   have:=h3 (by simp)
   simp at this
   simp[this]
 | x::r,k+1,h1,h2,h3=>by
   have hx:=h1 0 (by simp) (by omega)
   simp at hx
   have ih:=xI (p:=p) (l:=r) (k:=k) (fun i h hi=>by have:=h1 (i+1) (by simp;omega) (by omega);simpa using this) (by simpa using h2) (fun h=>by have:=h3 (by simp;omega);simpa using this)
   simp[hx,ih.1,ih.2]
set_option maxHeartbeats 1600000 in
theorem alike1_con(l bx:Nat)(rs:List aR)(vs:Value)(J:List (List aR)→World→Prop)(hlen:rs.length≤1152921504606846976)
  (hL:∀pre w,J pre w→eO w vs 4 (rs.map aR.cells))
  (hupd:∀pre w cs w',J pre w→mK w bx cs 22 w'→J pre w')
  (hdrew:∀pre w,J pre w→J pre w.drew)
  (hY:∀pre w v row rest,J pre w→row≠[]→(∀w',eO w' vs 4 (rs.map aR.cells)→eO w' v 4 (row.map aR.cells))→rowsOf rs=pre++row::rest→sH Tryz.prog l #[v] w (fun v' w'=>v'=.bool true∧J (pre++[row]) w'∧w'.heap[bx]? = w.heap[bx]?))
  (w:World) (h0:J [] w) (hb:bQ w bx [vs] 22) :
  bV Tryz.prog 85 #[.func (.yield l) #[] #[],.pointer (some ⟨bx,0,none⟩)] w (fun v w'=>v=.tuple #[]∧J (rowsOf rs) w'):=by
 have hml:maxLen=9223372036854775807:=rfl
 refine enter aB Tryz.func85 (aV rfl) rfl rfl rfl ?_
 refine aH.mk (X:=List (List aR) × List aR × Value) (fun x=>[(0,.func (.yield l) #[] #[]),(1,.pointer (some ⟨bx,0,none⟩))])
  (fun x w'=>J x.1 w'∧bQ w' bx [x.2.2] 22∧(∀w,eO w vs 4 (rs.map aR.cells)→eO w x.2.2 4 (x.2.1.map aR.cells))∧x.1++rowsOf x.2.1=rowsOf rs∧rs=x.1.flatten++x.2.1) (fun x=>x.2.1.length) ([],rs,vs)
  ⟨h0,hb,fun _ h=>h,rfl,by simp⟩ ⟨rfl,rfl,trivial⟩ ?_
 rintro⟨pre,rest,v⟩ w1 ⟨hJ1,hb1,hsl,hrows,hcat⟩
 simp only at hJ1 hb1 hsl hrows hcat ⊢
 have hs1:=hsl w1 (hL _ _ hJ1)
 obtain⟨o,c,rfl,c1,c2,c3⟩:=hs1.ex
 simp only[List.length_map]at c1 hb1 hsl hs1 ⊢
 refine Load.here (hb1.cells.one (k:=0) rfl) ?_
 refine Cond.dec (fun g1=>?_) (fun g1=>?_)
 rotate_left
 ·have:rest=[]:=List.eq_nil_of_length_eq_zero (by omega)
  subst this
  have:pre=rowsOf rs:=by rw[←hrows];simp[rowsOf,yR]
  exact And.intro rfl (this▸hJ1)
 cases rest with
 | nil=>simp at g1
 | cons x r=>
 have hrl:r.length+1≤rs.length:=by rw[hcat];simp
 simp only[List.length_cons]at c1 hb1 hsl hs1 g1 ⊢
 refine aH.joinAt 2 (X:=Nat) (fun k=>[(0,.func (.yield l) #[] #[]),(1,.pointer (some ⟨bx,0,none⟩)),(3,.int .i64 (k+1:Nat))])
  (fun k w'=>J pre w'∧bQ w' bx [.slice o (r.length+1) c] 22∧k≤r.length∧(∀i (h:i<r.length),i<k→kQ x r[i]=true)) (fun k=>r.length-k) 0
  (Y:=Nat) (fun k=>[(0,.func (.yield l) #[] #[]),(1,.pointer (some ⟨bx,0,none⟩)),(3,.int .i64 (k+1:Nat))])
  (fun k w'=>J pre w'∧bQ w' bx [.slice o (r.length+1) c] 22∧k≤r.length∧r.takeWhile (kQ x)=r.take k∧r.dropWhile (kQ x)=r.drop k)
  ⟨hJ1,hb1,Nat.zero_le _,fun _ _ h=>absurd h (by omega)⟩ ⟨rfl,rfl,rfl,trivial⟩ ?_ ?_
 ·rintro k w2 ⟨hJ2,hb2,hk,hall⟩
  have hE:=Ext.drew w2
  have hbd:=hb2.ext hE
  have hJd:=hdrew _ _ hJ2
  have hsd:=hsl w2.drew (hL _ _ hJd)
  obtain⟨a0,ha0,hc0⟩:=hsd.el _ _ _ rfl 0 x.cells rfl
  cases ha0
  rw[Nat.zero_mul]at hc0
  refine aQ.mk aB mixed (allT 0 28) [] (by kernel_rfl) (fun w'=>w'=w2.drew) rfl ?_
  refine Load.here (hbd.cells.one (k:=0) rfl) ?_
  refine aK.bB (fun g2=>?_) (fun g2=>?_)
  rotate_left
  ·repeat (first|refine gA ?_|refine gB ?_|refine gC ?_)
   refine Cond.no ?_
   have hkr:k=r.length:=by omega
   have:=xI (p:=kQ x) hall hk (fun h=>by omega)
   exact⟨k,⟨hJd,hbd,hk,this.1,this.2⟩,rfl,rfl,rfl,trivial⟩
  have hkr:k<r.length:=by omega
  obtain⟨_,ha1,hck⟩:=hsd.el _ _ _ rfl (k+1) (r[k]).cells (by simp[hkr])
  cases ha1
  have hstop:kQ x r[k]=false→r.takeWhile (kQ x)=r.take k∧r.dropWhile (kQ x)=r.drop k:=fun h=>xI hall hk (fun _=>h)
  repeat (first|refine gA ?_|refine gB ?_|refine gC ?_)
  refine Load.here (hbd.cells.one (k:=0) rfl) ?_
  repeat (first|refine gA ?_|refine gB ?_|refine gC ?_)
  refine Idx.mk a0 rfl (by omega) (by omega) ?_
  repeat (first|refine gA ?_|refine gB ?_|refine gC ?_)
  refine Load.here (hck.one (k:=0) rfl) ?_
  repeat (first|refine gA ?_|refine gB ?_|refine gC ?_)
  refine Load.here (hbd.cells.one (k:=0) rfl) ?_
  repeat (first|refine gA ?_|refine gB ?_|refine gC ?_)
  refine Idx.mk a0 rfl (by omega) (by omega) ?_
  repeat (first|refine gA ?_|refine gB ?_|refine gC ?_)
  refine Load.here (hc0.one (k:=0) rfl) ?_
  refine gC ?_
  refine aK.bB (fun g3=>?_) (fun g3=>?_)
  rotate_left
  ·repeat (first|refine gA ?_|refine gB ?_|refine gC ?_)
   refine Cond.no ?_
   have:=hstop (by simp[kQ,g3])
   exact⟨k,⟨hJd,hbd,hk,this.1,this.2⟩,rfl,rfl,rfl,trivial⟩
  repeat (first|refine gA ?_|refine gB ?_|refine gC ?_)
  refine Load.here (hbd.cells.one (k:=0) rfl) ?_
  repeat (first|refine gA ?_|refine gB ?_|refine gC ?_)
  refine Idx.mk a0 rfl (by omega) (by omega) ?_
  repeat (first|refine gA ?_|refine gB ?_|refine gC ?_)
  refine Load.here (hck.one (k:=1) rfl) ?_
  repeat (first|refine gA ?_|refine gB ?_|refine gC ?_)
  refine Load.here (hbd.cells.one (k:=0) rfl) ?_
  repeat (first|refine gA ?_|refine gB ?_|refine gC ?_)
  refine Idx.mk a0 rfl (by omega) (by omega) ?_
  repeat (first|refine gA ?_|refine gB ?_|refine gC ?_)
  refine Load.here (hc0.one (k:=1) rfl) ?_
  repeat (first|refine gA ?_|refine gB ?_|refine gC ?_)
  refine Cond.dec (fun g4=>?_) (fun g4=>?_)
  ·refine Ar.aM (k+1+1) (by omega) (by omega) ?_
   refine⟨k+1,⟨hJd,hbd,by omega,fun i h hi=>?_⟩,by omega,rfl,rfl,rfl,trivial⟩
   by_cases e:i=k
   ·subst e;simp[kQ,g3,g4]
   ·exact hall i h (by omega)
  ·have:=hstop (by simp[kQ,g4])
   exact⟨k,⟨hJd,hbd,hk,this.1,this.2⟩,rfl,rfl,rfl,trivial⟩
 ·rintro k w2 ⟨hJ2,hb2,hk,htw,hdw⟩
  have hs2:=hsl w2 (hL _ _ hJ2)
  refine Load.here (hb2.cells.one (k:=0) rfl) ?_
  refine Need.mk ⟨by omega,by omega,by omega,by omega,by simp⟩ ?_
  have hrow:∀w',eO w' vs 4 (rs.map aR.cells)→eO w' (.slice (if((k+1:Nat):Int).toNat=(0:Int).toNat then o else o.map (fun y=>y.add ((0:Int).toNat*4))) (k+1) (k+1)) 4 ((x::r.take k).map aR.cells):=fun w' hw'=>by
   rw[vT ((k+1:Nat):Int) o 4]
   have:=(hsl w' hw').front (k:=k+1) (c2:=k+1) (by simp;omega) (Nat.le_refl _) (by omega) (fun h=>by have:=c3 h;omega)
   simpa using this
  have hcat':rowsOf rs=pre++(x::r.take k)::rowsOf (r.drop k):=by
   rw[←hrows,rowsOf_cons,htw,hdw]
  obtain⟨fn,tmps,assign,body,hy,hR⟩:=hY pre w2 _ (x::r.take k) (rowsOf (r.drop k)) hJ2 (by simp) hrow hcat'
  refine sH.mk fn tmps assign body hy fun m R hk'=>hR m R fun v w3 ⟨hv,hJ3,hbx⟩=>hk' v w3 ?_
  subst hv
  have hb3:bQ w3 bx [.slice o (r.length+1) c] 22:=hbx.trans hb2
  refine Cond.no ?_
  refine Load.here (hb3.cells.one (k:=0) rfl) ?_
  refine Need.mk ⟨by omega,by omega,by omega,by omega,by simp⟩ ?_
  refine bA.store bx 0 _ [_] 22 rfl rfl (by kernel_rfl) hb3 (by simp) (by simp[Value.oneCell']) fun w4 hU=>?_
  have hlr:(x::r.take k).length=k+1:=by simp;omega
  refine⟨(pre++[x::r.take k],r.drop k,_),⟨hupd _ _ _ _ hJ3 hU,hU.blk,fun w hw=>?_,?_,?_⟩,?_,rfl,rfl,trivial⟩
  ·have:=(hsl w hw).back (k:=k+1) (by simp;omega)
   rw[List.map_drop]
   exact this
  ·rw[←hrows,rowsOf_cons,htw,hdw]
   simp
  ·rw[hcat];simp
  ·show(r.drop k).length<r.length+1
   simp;omega
theorem alike_con(v:Value)(w:World)(hv:v.oneCell'=true):bV Tryz.prog 41 #[v] w (fun v' w'=>∃b,v'=.func (.func 85) #[] #[.pointer (some ⟨b,0,none⟩)]∧bO w b [v] 22 w'):=by
 refine enter aB Tryz.func41 (aV rfl) rfl rfl rfl ?_
 refine aG.box [v] (by cases v<;>first|rfl|cases hv) fun b w1 n1=>?_
 exact⟨b,rfl,n1⟩
def iR{α:Type}(same:α→α→Bool):Nat→List α→List (List α)
 | 0,_=>[]
 | _,[]=>[]
 | n+1,x::r=>(x::r.takeWhile (same x))::iR same n (r.dropWhile (same x))
def qF{α:Type}(same:α→α→Bool)(l:List α):List (List α):=iR same l.length l
theorem rowsF_eq:∀(n:Nat) (l:List aR),yR n l=iR kQ n l
 | 0,_=>rfl
 | n+1,[]=>rfl
 | n+1,x::r=>by simp only[yR,iR,rowsF_eq n]
theorem rowsOf_eq(l:List aR):rowsOf l=qF kQ l:=rowsF_eq _ _
theorem takeWhile_map{α β:Type}(f:β→α)(p:α→Bool)(q:β→Bool)(h:∀x,q x=p (f x)):∀l:List β,(l.map f).takeWhile p=(l.takeWhile q).map f∧(l.map f).dropWhile p=(l.dropWhile q).map f
 | []=>⟨rfl,rfl⟩
 | x::r=>by
   have ih:=takeWhile_map f p q h r
   have hx:=h x
   cases hq:q x with
   | true=>rw[hq]at hx;simp[List.takeWhile_cons,List.dropWhile_cons,←hx,hq,ih.1,ih.2]
   | false=>rw[hq]at hx;simp[List.takeWhile_cons,List.dropWhile_cons,←hx,hq]
theorem rowsGF_map{α β:Type}(f:β→α)(sa:α→α→Bool)(sb:β→β→Bool)(h:∀x y,sb x y=sa (f x) (f y)):∀(n:Nat) (l:List β),iR sa n (l.map f)=(iR sb n l).map (List.map f)
 | 0,_=>rfl
 | n+1,[]=>rfl
 | n+1,x::r=>by
   have:=takeWhile_map f (sa (f x)) (sb x) (fun y=>h x y) r
   simp only[List.map_cons,iR,this.1,this.2,rowsGF_map f sa sb h n]
theorem rowsG_map{α β:Type}(f:β→α)(sa:α→α→Bool)(sb:β→β→Bool)(h:∀x y,sb x y=sa (f x) (f y))(l:List β):qF sa (l.map f)=(qF sb l).map (List.map f):=by
 unfold qF
 rw[List.length_map]
 exact rowsGF_map f sa sb h _ _
theorem insK_map{α β:Type}(f:β→α)(ka:α→Int)(kb:β→Int)(h:∀x,kb x=ka (f x))(x:β):∀l:List β,uK ka (f x) (l.map f)=(uK kb x l).map f
 | []=>rfl
 | y::r=>by
   simp only[List.map_cons,uK,←h]
   split
   ·rfl
   ·simp only[List.map_cons,insK_map f ka kb h x r]
theorem vH{α β:Type}(f:β→α)(ka:α→Int)(kb:β→Int)(h:∀x,kb x=ka (f x)):∀l:List β,eH ka (l.map f)=(eH kb l).map f
 | []=>rfl
 | x::r=>by simp only[List.map_cons,eH,vH f ka kb h r,insK_map f ka kb h]
theorem pQ{α:Type}{same:α→α→Bool}:∀{n:Nat} {l:List α} {row:List α},row∈iR same n l→(∀x∈row,x∈l)∧row≠[]
 | 0,_,_,h=>by cases h
 | n+1,[],_,h=>by cases h
 | n+1,x::r,row,h=>by
   rcases List.mem_cons.1 h with rfl|h
   ·refine⟨fun y hy=>?_,by simp⟩
    rcases List.mem_cons.1 hy with rfl|hy
    ·exact List.mem_cons_self
    ·exact List.mem_cons_of_mem _ ((List.takeWhile_sublist _).mem hy)
   ·have:=pQ h
    exact⟨fun y hy=>List.mem_cons_of_mem _ ((List.dropWhile_sublist _).mem (this.1 y hy)),this.2⟩
theorem sV{α:Type}{same:α→α→Bool}:∀{n:Nat} {l:List α} {row:List α},row∈iR same n l→row.length≤l.length
 | 0,_,_,h=>by cases h
 | n+1,[],_,h=>by cases h
 | n+1,x::r,row,h=>by
   rcases List.mem_cons.1 h with rfl|h
   ·have:=(List.takeWhile_sublist (same x) (l:=r)).length_le
    simp;omega
   ·have:=sV h
    have h2:=lU (same x) r
    simp;omega
def kp(p:Pt):Int:=p.kind*18446744073709551616+p.target
def fI(x y:Pt):Bool:=decide (y.kind=x.kind)&&decide (y.target=x.target)
def fA(row:List Pt):List Nd:=(row.map fun q=>bL q.nodes).flatten
def fH:List Nd→List Pt→List Nd
 | acc,[]=>acc
 | acc,q::r=>fH (acc++(bC q.nodes).map (aS acc.length)) r
def bJ(row:List Pt):List Nd:=fA row++(fH [] row).map (aS (fA row).length)
def gZ(k:Int):Bool:=!(decide (1≤k)&&decide (k≤10))||(!insertsB k&&!decide (k=10))
def dP:List Pt→List Pt
 | []=>[]
 | p::r=>if gZ p.kind=true then p::r else if p.kind=10 then [p]else [{ p with nodes:=bJ (p::r) }]
def dA(l:List Pt):List Pt:=if l.all (fun p=>aU p.nodes)then((qF fI (eH kp l)).map dP).flatten else []
theorem frag_bounds{t:List Nd}(h:eG t false=0):t.length≤16384∧∀x∈t,-1≤x.parent∧x.parent<16384:=by
 unfold eG at h
 split at h
 ·omega
 ·rename_i hl
  refine⟨by omega,?_⟩
  cases hr:gW t false t.length with
  | none=>rw[hr]at h;simp at h
  | some s=>
    have ho:∀i<t.length,fB t i=true:=fun i hi=>by
     obtain⟨s',h1,s'',h2⟩:=rV hr i hi
     unfold iC at h2
     simp only at h2
     split at h2
     ·cases h2
     ·rename_i g;simpa using g
    have hord:∀i,i≤t.length→Ord t i:=fun i=>by
     induction i with
     | zero=>intro _ j hj;exact absurd hj (by omega)
     | succ i ih=>intro hi;exact(ih (by omega)).succ (ho i (by omega))
    intro x hx
    obtain⟨i,hi,rfl⟩:=List.mem_iff_getElem.1 hx
    have:=hord t.length (Nat.le_refl _) i hi
    rw[eT hi]at this
    omega
theorem uV{l:List Nd}(h:aU l=true):(bC l).length≤16384∧∀x∈bC l,-1≤x.parent∧x.parent<16384:=by
 unfold aU at h
 simp only[Bool.and_eq_true,decide_eq_true_eq]at h
 have e:bC l=iE l:=by simp[bC,h.1]
 rw[e]
 exact frag_bounds h.2
theorem kL(l:List Nd):(bL l).length+(bC l).length≤l.length:=by
 unfold bL bC
 split
 ·have:=jC l
  simp[iE];omega
 ·simp
theorem iJ(acc:List Nd):∀(row:List Pt) (q:Pt),fH acc (row++[q])=fH acc row++(bC q.nodes).map (aS (fH acc row).length):=by
 intro row
 induction row generalizing acc with
 | nil=>intro q;rfl
 | cons x r ih=>intro q;exact ih _ q
theorem jB(row:List Pt)(q:Pt):fA (row++[q])=fA row++bL q.nodes:=by simp[fA]
structure Ch(M:Nat→Prop)(w w':World):Prop where
 os:w'.os=w.os
 tape:w'.tape=w.tape
 output:w'.output=w.output
 size:w.heap.size≤w'.heap.size
 block:∀k,k<w.heap.size→¬M k→w'.heap[k]? = w.heap[k]?
theorem Ch.refl(M:Nat→Prop)(w:World):Ch M w w:=⟨rfl,rfl,rfl,Nat.le_refl _,fun _ _ _=>rfl⟩
theorem Ch.trans{M:Nat→Prop}{a b c:World}(h:Ch M a b)(k:Ch M b c):Ch M a c:=
 ⟨k.os.trans h.os,k.tape.trans h.tape,k.output.trans h.output,Nat.le_trans h.size k.size,fun i hi hM=>(k.block i (Nat.lt_of_lt_of_le hi h.size) hM).trans (h.block i hi hM)⟩
theorem Ch.aL{M:Nat→Prop}{w w':World}(h:Ext w w'):Ch M w w':=⟨h.os,h.tape,h.output,h.size,fun k hk _=>h.block k hk⟩
theorem Ch.bG{M:Nat→Prop}{w w':World}{b:Nat}{cs:List Value}{t:TypeId}(h:mK w b cs t w')(hb:M b):Ch M w w':=by
 have hB:=h.below (Nat.le_refl b)
 exact⟨hB.os,hB.tape,hB.output,hB.size,fun k _ hk=>h.other (fun e=>hk (e▸hb))⟩
theorem Ch.cO{M:Nat→Prop}{w w':World}{v v':Value}(h:iO w v w' v')(hb:∀b,v.ownBlock=some b→M b):Ch M w w':=
 ⟨h.g.os,h.g.tape,h.g.output,h.g.size,fun k hk hM=>h.g.block k hk (fun e=>hM (hb k e.symm))⟩
theorem Ch.below{M:Nat→Prop}{w w':World}(h:Ch M w w'){B:Nat}(hB:B≤w.heap.size)(hM:∀k,M k→B≤k):Below B w w':=
 ⟨h.os,h.tape,h.output,h.size,fun k hk=>h.block k (Nat.lt_of_lt_of_le hk hB) (fun hm=>absurd (hM k hm) (by omega))⟩
theorem Ch.vec{M:Nat→Prop}{w w':World}(h:Ch M w w'){B e sz:Nat}{v:Value}{xs:List (List Value)}(hv:Vec w B e sz v xs)(hb:∀g,v.ownBlock=some g→¬M g):Vec w' B e sz v xs:=by
 refine⟨?_,hv.len⟩
 obtain⟨h1,h2⟩:=hv.own
 refine⟨h1,?_⟩
 rcases h2 with h2|⟨g,cap,cur,hvv,hg,hh,r⟩
 ·exact .inl h2
 ·exact .inr ⟨g,cap,cur,hvv,hg,(h.block g (Array.getElem?_eq_some_iff.1 hh).1 (hb g (by rw[hvv];rfl))).trans hh,r⟩
theorem Ch.blk{M:Nat→Prop}{w w':World}(h:Ch M w w'){b:Nat}{cs:List Value}{t:TypeId}(hb:bQ w b cs t)(hM:¬M b):bQ w' b cs t:=(h.block b hb.lt hM).trans hb
theorem Ch.at{M:Nat→Prop}{w w':World}(h:Ch M w w'){b:Nat}{o:Obj}(hb:w.heap[b]? = some o)(hM:¬M b):w'.heap[b]? = some o:=(h.block b (Array.getElem?_eq_some_iff.1 hb).1 hM).trans hb
theorem Ch.xC{M:Nat→Prop}(w:World){l:Nat}(o:Obj)(hM:M l):Ch M w (w.putObj l o):=⟨rfl,rfl,rfl,by simp,fun k _ hk=>World.putObj_heap_other (fun e=>hk (e▸hM))⟩
theorem _root_.Go.V.sH.round{P:Program}{T:wG}(hT:iV P T){n l:Nat}{args:Array Value}{w:World}{k:Value→World→Prop}{rc:Loop}(hrec:w.heap[l]? = some (.loop rc))(hs:args.size=rc.params.size)
  (hqa:l5 rc.assign=true) (hqb:l5 rc.body=true) (env:Env) (hH:Holds n { tmps:=(rc.params.zip args).foldl (fun tmps (t,a)=>tmps.setIfInBounds t a) rc.tmps,defers:=[] } env)
  (h:vcC P T n rc.assign (fun e env1 w1=>match e with
   | .normal=>∃w2,(Instr.beginRound l).run P w1=.ok () w2∧vcC P T n rc.body (fun e env2 w3=>match e with
     | .normal=>∃v w4,(Instr.endRound l none).run P w3=.ok v w4∧k v w4
     | _=>False) env1 w2
   | _=>False) env w):sH P l args w k:=by
 refine .mk _ _ _ _ (run_yield hrec hs) fun m R hR=>roundIn_of_wpIn trivial ?_
 have:=gV (ro:=some l) (m:=m) (Q:=Exit.then (fun a₁ w₁=>∃w₂,(Instr.beginRound l).run P w₁=.ok () w₂∧rc.body.wpIn (Fence.wide.inRound l) m P (roundPost P l R) a₁ w₂) (fun _ _ _=>False)) hT rc.assign (.inr hqa) hH h (fun e env1 w1 h1 a ha=>by
  cases e with
  | normal=>
    obtain⟨w2,hb,h2⟩:=h1
    refine⟨w2,hb,?_⟩
    exact gV (ro:=some l) (m:=m) (Q:=roundPost P l R) hT rc.body (.inr hqb) ha h2 (fun e env2 w3 h3 a' ha'=>by
     cases e with
     | normal=>
       obtain⟨v,w4,h4,h5⟩:=h3
       exact⟨v,w4,h4,hR v w4 h5⟩
     | _=>exact h3.elim)
  | _=>exact h1.elim)
 exact this
def csnd:Code→Code
 | .seq _ y=>y
 | c=>c
def cfst:Code→Code
 | .seq x _=>x
 | c=>c
def cblk:Code→Code
 | .block _ x=>x
 | c=>c
def rgA:Code→Code
 | .rangeFunc _ _ a _=>a
 | c=>c
def rgB:Code→Code
 | .rangeFunc _ _ _ b=>b
 | c=>c
noncomputable def mergeRG:Code:=cblk (csnd (cfst (csnd (csnd (csnd (csnd (csnd (Tryz.f10.body.getD .skip))))))))
structure d9(w:World)(D:Nat)(vo:Value)(outs:List aR)(ps:List Pt):Prop where
 vec:Vec w D 41 4 vo (outs.map aR.cells)
 len:outs.length=ps.length
 el:∀(i:Nat) (r:aR) (p:Pt),outs[i]? = some r→ps[i]? = some p→(r.kind=p.kind∧r.target=p.target∧r.text=p.text)∧((0≤p.kind∧p.kind≤255)∧(-9223372036854775808≤p.target∧p.target≤9223372036854775807)∧p.text.size≤140737488355328)∧
  Vec w D 50 4 r.nodes (p.nodes.map Nd.cells)∧(∀x∈p.nodes,x.Wf)∧p.nodes.length≤2932031007402∧(∀g,r.nodes.ownBlock=some g→vo.ownBlock≠some g)
 dif:∀(i j:Nat) (r q:aR),outs[i]? = some r→outs[j]? = some q→i≠j→∀g,r.nodes.ownBlock=some g→q.nodes.ownBlock≠some g
theorem d9.nlt{w:World}{D:Nat}{vo:Value}{outs:List aR}{ps:List Pt}(h:d9 w D vo outs ps){i:Nat}{r:aR}(hr:outs[i]? = some r){g:Nat}(hg:r.nodes.ownBlock=some g):D≤g∧g<w.heap.size:=by
 have hi:i<ps.length:=by have:=(List.getElem?_eq_some_iff.1 hr).1;have:=h.len;omega
 obtain⟨-,-,c,-⟩:=h.el i r _ hr (List.getElem?_eq_getElem hi)
 exact c.ge hg
theorem d9.ext{w w':World}{D:Nat}{vo:Value}{outs:List aR}{ps:List Pt}(h:d9 w D vo outs ps)(hE:Ext w w'):d9 w' D vo outs ps:=
 ⟨h.vec.ext hE,h.len,fun i r p h1 h2=>by
  obtain⟨a,b,c,d,e,f⟩:=h.el i r p h1 h2
  exact⟨a,b,c.ext hE,d,e,f⟩,h.dif⟩
theorem d9.ch{M:Nat→Prop}{w w':World}{D:Nat}{vo:Value}{outs:List aR}{ps:List Pt}(h:d9 w D vo outs ps)(hC:Ch M w w')(hM:∀k,M k→k<D):d9 w' D vo outs ps:=
 ⟨hC.vec h.vec (fun g hg hm=>by have:=(h.vec.ge hg).1;have:=hM g hm;omega),h.len,fun i r p h1 h2=>by
  obtain⟨a,b,c,d,e,f⟩:=h.el i r p h1 h2
  exact⟨a,b,hC.vec c (fun g hg hm=>by have:=(c.ge hg).1;have:=hM g hm;omega),d,e,f⟩,h.dif⟩
theorem d9.upd{w w':World}{D b:Nat}{cs:List Value}{t:TypeId}{vo:Value}{outs:List aR}{ps:List Pt}(h:d9 w D vo outs ps)(hU:mK w b cs t w')(hb:b<D):d9 w' D vo outs ps:=
 h.ch (M:=fun k=>k=b) (.bG hU rfl) (fun k e=>e▸hb)
theorem d9.push{w w':World}{D:Nat}{vo vo':Value}{outs:List aR}{ps:List Pt}(h:d9 w D vo outs ps){rn:aR}{p:Pt}(har:iO w vo w' vo')(hva:Vec w' D 41 4 vo' ((outs.map aR.cells)++[rn.cells]))
  (e1:rn.kind=p.kind) (e2:rn.target=p.target) (e3:rn.text=p.text) (k1:0≤p.kind∧p.kind≤255) (k2:-9223372036854775808≤p.target∧p.target≤9223372036854775807) (k3:p.text.size≤140737488355328)
  (hn:Vec w D 50 4 rn.nodes (p.nodes.map Nd.cells)) (hw:∀x∈p.nodes,x.Wf) (hl:p.nodes.length≤2932031007402) (hne:∀g,rn.nodes.ownBlock=some g→vo.ownBlock≠some g) (hdf:∀(i:Nat) (r:aR),outs[i]? = some r→∀g,rn.nodes.ownBlock=some g→r.nodes.ownBlock≠some g):d9 w' D vo' (outs++[rn]) (ps++[p]):=by
 have key:∀(r:aR) (q:Pt),Vec w D 50 4 r.nodes (q.nodes.map Nd.cells)→(∀g,r.nodes.ownBlock=some g→vo.ownBlock≠some g)→Vec w' D 50 4 r.nodes (q.nodes.map Nd.cells)∧(∀g,r.nodes.ownBlock=some g→vo'.ownBlock≠some g):=fun r q hv hx=>by
  refine⟨har.vec hv ?_,fun g hg e=>?_⟩
  ·cases ho:r.nodes.ownBlock with
   | none=>exact .inl rfl
   | some g=>exact .inr (fun e=>hx g ho e.symm)
  ·rcases har.fresh g e with h1|h1
   ·exact hx g hg h1
   ·have:=(hv.ge hg).2;omega
 refine⟨by simpa using hva,by simp[h.len],fun i r q h1 h2=>?_,fun i j r q h1 h2 hij g hg e=>?_⟩
 rotate_left
 ·rw[List.getElem?_append]at h1 h2
  have one:∀(k:Nat) (r:aR),¬k<outs.length→[rn][k-outs.length]? = some r→k=outs.length∧rn=r:=fun k r hk hr=>by
   rcases Nat.eq_zero_or_pos (k-outs.length)with h|h
   ·rw[h]at hr;simp at hr;exact⟨by omega,hr⟩
   ·rw[List.getElem?_eq_none (by simp;omega)]at hr;cases hr
  split at h1<;>split at h2
  ·exact h.dif i j r q h1 h2 hij g hg e
  ·obtain⟨-,rfl⟩:=one j q (by assumption) h2
   exact hdf i r h1 g e hg
  ·obtain⟨-,rfl⟩:=one i r (by assumption) h1
   exact hdf j q h2 g hg e
  ·have a:=(one i r (by assumption) h1).1
   have b:=(one j q (by assumption) h2).1
   omega
 rw[List.getElem?_append]at h1 h2
 rw[←h.len]at h2
 split at h1
 ·rename_i hi
  rw[if_pos hi]at h2
  obtain⟨a,b,c,d,e,f⟩:=h.el i r q h1 h2
  obtain⟨c',f'⟩:=key r q c f
  exact⟨a,b,c',d,e,f'⟩
 ·rename_i hi
  rw[if_neg hi]at h2
  have hz:i-outs.length=0:=by
   rcases Nat.eq_zero_or_pos (i-outs.length)with h|h
   ·exact h
   ·rw[List.getElem?_eq_none (by simp;omega)]at h1;cases h1
  rw[hz]at h1 h2
  simp at h1 h2
  subst h1 h2
  obtain⟨c',f'⟩:=key rn p hn hne
  exact⟨⟨e1,e2,e3⟩,⟨k1,k2,k3⟩,c',hw,hl,f'⟩
def Mr(bo l D k:Nat):Prop:=k=bo∨k=l∨D≤k
structure NdOk(n:Nat)(l:List Nd):Prop where
 len:l.length≤n
 wf:∀x∈l,x.Wf
theorem NdOk.nil(n:Nat):NdOk n []:=⟨Nat.zero_le _,by simp⟩
theorem jO(k t:Int)(s:ByteArray)(o:Option Addr)(n c:Nat)(w:World) :
  (Instr.buildSlice 22 1 #[(0,.agg #[.int .u8 k,.int .i64 t,.string s,.slice o n c])]).run Tryz.prog w=.ok (.slice (some ⟨w.heap.size,0,none⟩) 1 1) (w.alloc (.cells #[.int .u8 k,.int .i64 t,.string s,.slice o n c] 41)):=by
 kernel_rfl
set_option maxHeartbeats 6400000 in
theorem mergeRound(D bo l:Nat)(w:World)(rc:Loop)(fnid:FuncId)(tm:Array Value)(dk:Nat)(hrc:rc={ state:=.ready,pending:=none,fn:=fnid,tmps:=tm,params:=#[43],assign:=rgA mergeRG,body:=rgB mergeRG,defers:=dk })
  (hrec:w.heap[l]? = some (.loop rc)) (hbD:bo<D) (hlD:l<D) (hbl:bo≠l) (hDw:D≤w.heap.size) (hT:Holds 125 { tmps:=tm,defers:=[] } [(8,.pointer (some ⟨bo,0,none⟩))])
  (v:Value) (prow:List (aR × Pt)) (hne:prow≠[]) (hlen:prow.length≤1000)
  (hrow:∀w',Ch (Mr bo l D) w w'→eO w' v 4 ((prow.map (·.1)).map aR.cells)) (hpt:∀w',Ch (Mr bo l D) w w'→∀x∈prow,gM w' x.1 x.2)
  (hok:∀x∈prow,aU x.2.nodes=true∧x.2.nodes.length≤1000000) (hglob:∀w',Ch (Mr bo l D) w w'→jV w')
  (vo:Value) (outs:List aR) (ps:List Pt) (hbo:bQ w bo [vo] 22) (hO:d9 w D vo outs ps) (hol:ps.length≤100000) :
  sH Tryz.prog l #[v] w (fun v' w'=>v'=.bool true∧Ch (Mr bo l D) w w'∧w'.heap[l]? = some (.loop rc)∧∃vo' outs',bQ w' bo [vo'] 22∧d9 w' D vo' outs' (ps++dP (prow.map (·.2)))):=by
 have hml:maxLen=9223372036854775807:=rfl
 have hrc0:=hrc
 refine sH.round aB (n:=125) hrec (by rw[hrc];rfl) (by rw[hrc];rfl) (by rw[hrc];rfl) [(43,v),(8,.pointer (some ⟨bo,0,none⟩))] (by rw[hrc];have:=hT.put 43 (by decide) v;simpa [Act.put] using this) ?_
 have hasg:rc.assign=rgA mergeRG:=by rw[hrc]
 have hbdy:rc.body=rgB mergeRG:=by rw[hrc]
 rw[hasg,hbdy]
 refine⟨_,run_beginRound hrec (by rw[hrc]),?_⟩
 have hC1:Ch (Mr bo l D) w (w.putObj l (.loop { rc with state:=.busy })):=.xC w _ (.inr (.inl rfl))
 have hl1:(w.putObj l (.loop { rc with state:=.busy })).heap[l]? = some (.loop { rc with state:=.busy }):=World.putObj_heap_same (by omega)
 have hput:Ch (fun k=>k=l) w (w.putObj l (.loop { rc with state:=.busy })):=.xC w _ rfl
 have hO1:=hO.ch hput (fun k e=>by omega)
 have hbo1:=hput.blk hbo (fun e=>hbl e)
 obtain⟨w1,hw1⟩:∃w',w'=w.putObj l (.loop { rc with state:=.busy }):=⟨_,rfl⟩
 rw[←hw1]at hC1 hl1 hO1 hbo1 ⊢
 have fin:∀w3 vo3 outs3,Ch (Mr bo l D) w w3→w3.heap[l]? = some (.loop { rc with state:=.busy })→bQ w3 bo [vo3] 22→d9 w3 D vo3 outs3 (ps++dP (prow.map (·.2)))→
   ∃v' w4,(Instr.endRound l none).run Tryz.prog w3=.ok v' w4∧v'=.bool true∧Ch (Mr bo l D) w w4∧w4.heap[l]? = some (.loop rc)∧∃vo' outs',bQ w4 bo [vo'] 22∧d9 w4 D vo' outs' (ps++dP (prow.map (·.2))):=fun w3 vo3 outs3 h1 h2 h3 h4=>by
  refine⟨_,_,run_endRound none h2,rfl,h1.trans (.xC w3 _ (.inr (.inl rfl))),?_,vo3,outs3,?_,?_⟩
  ·rw[World.putObj_heap_same (Array.getElem?_eq_some_iff.1 h2).1,hrc]
   rfl
  ·exact(Ch.xC (M:=fun k=>k=l) w3 _ rfl).blk h3 (fun e=>hbl e)
  ·exact h4.ch (Ch.xC (M:=fun k=>k=l) w3 _ rfl) (fun k e=>by omega)
 obtain⟨x0,rest,hprow⟩:∃x0 rest,prow=x0::rest:=by
  cases prow with
  | nil=>exact absurd rfl hne
  | cons x r=>exact⟨x,r,rfl⟩
 have hrowOut:dP (prow.map (·.2))=if gZ x0.2.kind=true then prow.map (·.2)else if x0.2.kind=10 then [x0.2]else [{ x0.2 with nodes:=bJ (prow.map (·.2)) }]:=by
  rw[hprow];rfl
 have hp0:=hpt w1 hC1 x0 (by rw[hprow];exact List.mem_cons_self)
 have hok0:=hok x0 (by rw[hprow];exact List.mem_cons_self)
 have hs1:=hrow w1 hC1
 obtain⟨o,c,hv,c1,c2,c3⟩:=hs1.ex
 simp only[List.length_map]at hv c1
 subst hv
 have hpl:0<prow.length:=List.length_pos_iff.2 hne
 obtain⟨a0,ha0,hc0⟩:=hs1.el _ _ _ rfl 0 x0.1.cells (by rw[hprow];rfl)
 cases ha0
 rw[Nat.zero_mul]at hc0
 refine Idx.mk a0 rfl (by omega) (by omega) ?_
 refine Load.here (hc0.all' rfl) ?_
 refine aG.alloc _ [.int .u8 0,.int .i64 0,.string ⟨#[]⟩,.slice none 0 0] jI rfl fun b10 w2 n2=>?_
 refine bA.store b10 0 _ x0.1.cells 41 rfl rfl (by kernel_rfl) n2.blk (by simp[aR.cells]) hp0.cells_one fun w5 hU5=>?_
 have n5:=n2.upd hU5
 have hE5:Ext w1 w5:=n5.ext
 have hb10:bQ w5 b10 x0.1.cells 41:=n5.blk
 have hbo5:=hbo1.ext hE5
 have hO5:=hO1.ext hE5
 have hl5:w5.heap[l]? = some (.loop { rc with state:=.busy }):=(Ch.aL (M:=fun _=>False) hE5).at hl1 (fun h=>h)
 have hge10:w1.heap.size≤b10:=by rw[n2.b_eq];exact Nat.le_refl _
 have hlt10:=hb10.lt
 have hDw5:D≤w5.heap.size:=Nat.le_trans hDw (Nat.le_trans hC1.size hE5.sz)
 have ck:x0.1.cells[0]? = some (.int .u8 x0.2.kind):=by rw[←hp0.kind];rfl
 have hwk:=hp0.wkind
 refine Load.here (hb10.cells.one (k:=0) ck) ?_
 refine aK.bB (fun g1=>?_) (fun g1=>?_)
 rotate_left
 ·have hcp:gZ x0.2.kind=true:=by
   have:¬1≤x0.2.kind:=by omega
   simp[gZ,this]
  repeat (first|refine gA ?_|refine gB ?_|refine gC ?_)
  refine Cond.yes ?_
  refine aH.mk (X:=Nat × Value × List aR) (fun x=>[(8,.pointer (some ⟨bo,0,none⟩)),(68,.slice (some a0) prow.length c),(69,.int .i64 prow.length),(70,.int .i64 x.1)])
   (fun x w'=>Ch (Mr bo l D) w w'∧x.1≤prow.length∧w'.heap[l]? = some (.loop { rc with state:=.busy })∧bQ w' bo [x.2.1] 22∧d9 w' D x.2.1 x.2.2 (ps++((prow.map (·.2)).take x.1))) (fun x=>prow.length-x.1) (0,vo,outs)
   ⟨hC1.trans (.aL hE5),Nat.zero_le _,hl5,hbo5,by simpa using hO5⟩ ⟨rfl,rfl,rfl,rfl,trivial⟩ ?_
  rintro⟨j,vo2,outs2⟩ w6 ⟨hC6,hj,hl6,hbo6,hO6⟩
  simp only at hj hbo6 hO6 ⊢
  have hDw6:D≤w6.heap.size:=Nat.le_trans hDw hC6.size
  refine Cond.dec (fun g7=>?_) (fun g7=>?_)
  rotate_left
  ·have hjl:j=prow.length:=by omega
   rw[hjl,List.take_of_length_le (by simp)]at hO6
   exact fin w6 vo2 outs2 hC6 hl6 hbo6 (by rw[hrowOut,if_pos hcp];exact hO6)
  have hjl:j<prow.length:=by omega
  obtain⟨a1,ha1,hcj⟩:=(hrow w6 hC6).el _ _ _ rfl j (prow[j]).1.cells (by simp[hjl])
  cases ha1
  have hp6:=hpt w6 hC6 _ (List.getElem_mem hjl)
  have hps:(prow.map (·.2)).take (j+1)=(prow.map (·.2)).take j++[(prow[j]).2]:=by
   rw[List.take_succ_eq_append_getElem (by simpa using hjl)];simp
  have hnl:=(hok _ (List.getElem_mem hjl)).2
  generalize prow[j]=x at *
  obtain⟨⟨k,tg,tx,nv⟩,p⟩:=x
  simp only at hcj hp6 hps hnl
  refine Idx.mk a0 rfl (by omega) (by omega) ?_
  refine Load.here (hcj.all' rfl) ?_
  refine aG.alloc _ [.int .u8 0,.int .i64 0,.string ⟨#[]⟩,.slice none 0 0] jI rfl fun b13 w7 n7=>?_
  refine bA.store b13 0 _ (aR.cells ⟨k,tg,tx,nv⟩) 41 rfl rfl (by kernel_rfl) n7.blk (by simp[aR.cells]) hp6.cells_one fun w8 hU8=>?_
  have n8:=n7.upd hU8
  have hb13:bQ w8 b13 (aR.cells ⟨k,tg,tx,nv⟩) 41:=n8.blk
  have hp8:=hp6.ext n8.ext
  refine Load.here (hb13.cells.one (k:=3) rfl) ?_
  refine aA.mk _ (mJ nv p.nodes _ hp8.nodes) ?_
  rintro vn w9 ⟨hvn,hE9⟩
  obtain⟨on,cn,hvnv,-,-,-,-,-⟩:=hvn.shape
  simp only[List.length_map]at hvnv
  have hb13':=hb13.ext hE9
  have hge13:w6.heap.size≤b13:=by rw[n7.b_eq];exact Nat.le_refl _
  refine bA.store b13 3 _ [vn] 41 rfl (by rw[hvnv];rfl) (by kernel_rfl) hb13' (by simp[aR.cells]) (fun u hu=>by rw[List.mem_singleton.1 hu,hvnv];rfl) fun w10 hU10=>?_
  have hE10:Ext w6 w10:=(n8.ext.trans hE9).upd hU10 hge13
  have hb10':bQ w10 b13 (aR.cells ⟨k,tg,tx,vn⟩) 41:=hU10.blk
  have hvn10:Vec w10 w8.heap.size 50 4 vn (p.nodes.map Nd.cells):=hvn.upd hU10 (fun e=>by
   have:=(hvn.ge e).1
   have h7:=n7.b_eq;have s8:=n8.sz
   omega)
  have hbo10:=hbo6.ext hE10
  have hO10:=hO6.ext hE10
  have hC10:=hC6.trans (.aL hE10)
  have hl10:=(Ch.aL (M:=fun _=>False) hE10).at hl6 (fun h=>h)
  refine Load.here (hbo10.cells.one (k:=0) rfl) ?_
  refine Load.here (hb10'.cells.all' rfl) ?_
  rw[hvnv]at hb10' hvn10 ⊢
  refine aG.mk _ _ (jO _ _ _ _ _ _ _) ?_
  obtain⟨w11,hw11⟩:∃w',w'=w10.alloc (.cells #[.int .u8 k,.int .i64 tg,.string tx,.slice on p.nodes.length cn] 41):=⟨_,rfl⟩
  rw[←hw11]
  have n11:bO w10 w10.heap.size (aR.cells ⟨k,tg,tx,.slice on p.nodes.length cn⟩) 41 w11:=⟨rfl,hw11⟩
  have hDw10:D≤w10.heap.size:=Nat.le_trans hDw hC10.size
  have hO11:=hO10.ext n11.ext
  have hol2:=hO6.len
  rw[List.length_append,List.length_take]at hol2
  refine bD.append fT D (outs2.map aR.cells) [aR.cells ⟨k,tg,tx,.slice on p.nodes.length cn⟩] hO11.vec (aT n11) (by
   intro y hy
   rw[List.mem_singleton.1 hy]
   exact⟨rfl,fun u hu=>by
    simp only[aR.cells,List.mem_cons,List.not_mem_nil,or_false]at hu
    rcases hu with rfl|rfl|rfl|rfl<;>rfl⟩) (by simp;omega) (by simp;omega) (Nat.le_trans hDw10 n11.ext.sz) fun vo3 w12 hva har=>?_
  have hO12:=hO11.push (rn:=⟨k,tg,tx,.slice on p.nodes.length cn⟩) (p:=p) har (by simpa using hva) hp6.kind hp6.target hp6.text hp6.wkind hp6.wtarget hp6.wtext
   ((hvn10.ext n11.ext).dJ (by have:=n8.ext.sz;omega)) hp6.nodes.wf (by omega) (fun g hg e=>by
     have h1:=(hvn10.ge hg).1
     have h2:=(hO6.vec.ge e).2
     have:=n8.ext.sz
     omega) (fun i r hr g hg e=>by
     have h1:=(hvn10.ge hg).1
     have h2:=(hO6.nlt hr e).2
     have:=n8.ext.sz
     omega)
  have hownD:∀b,vo2.ownBlock=some b→Mr bo l D b:=fun b hb=>.inr (.inr (hO6.vec.ge hb).1)
  have hC12:=(hC10.trans (.aL n11.ext)).trans (.cO har hownD)
  have hbo12:bQ w12 bo [vo2] 22:=har.blk (hbo10.ext n11.ext) (fun e=>by have:=(hO6.vec.ge e).1;omega)
  have hl12:w12.heap[l]? = some (.loop { rc with state:=.busy }):=by
   have h11:=(Ch.aL (M:=fun _=>False) n11.ext).at hl10 (fun h=>h)
   exact(har.g.block l (Array.getElem?_eq_some_iff.1 h11).1 (fun e=>by have:=(hO6.vec.ge e.symm).1;omega)).trans h11
  obtain⟨o3,c3,hvo3,-,-,-,-,-⟩:=hO12.vec.shape
  refine bA.store bo 0 _ [vo3] 22 rfl (by rw[hvo3];rfl) (by kernel_rfl) hbo12 (by simp) (fun u hu=>by rw[List.mem_singleton.1 hu,hvo3];rfl) fun w13 hU13=>?_
  have hbo13:bQ w13 bo [vo3] 22:=hU13.blk
  refine Ar.aM (j+1) (by omega) (by omega) ?_
  refine⟨(j+1,vo3,outs2++[⟨k,tg,tx,.slice on p.nodes.length cn⟩]),⟨hC12.trans (.bG hU13 (.inl rfl)),by show j+1≤_;omega,(hU13.other (Ne.symm hbl)).trans hl12,hbo13,?_⟩,by show prow.length-(j+1)<prow.length-j;omega,rfl,rfl,rfl,rfl,trivial⟩
  simp only[hps,←List.append_assoc]
  exact hO12.upd hU13 hbD
 repeat (first|refine gA ?_|refine gB ?_|refine gC ?_)
 refine Load.here (hb10.cells.one (k:=0) ck) ?_
 repeat (first|refine gA ?_|refine gB ?_|refine gC ?_)
 refine aK.bP (fun g2=>?_) (fun g2=>?_)
 rotate_left
 ·have hcp:gZ x0.2.kind=true:=by simp[gZ,g2]
  repeat (first|refine gA ?_|refine gB ?_|refine gC ?_)
  refine Cond.yes ?_
  refine aH.mk (X:=Nat × Value × List aR) (fun x=>[(8,.pointer (some ⟨bo,0,none⟩)),(68,.slice (some a0) prow.length c),(69,.int .i64 prow.length),(70,.int .i64 x.1)])
   (fun x w'=>Ch (Mr bo l D) w w'∧x.1≤prow.length∧w'.heap[l]? = some (.loop { rc with state:=.busy })∧bQ w' bo [x.2.1] 22∧d9 w' D x.2.1 x.2.2 (ps++((prow.map (·.2)).take x.1))) (fun x=>prow.length-x.1) (0,vo,outs)
   ⟨hC1.trans (.aL hE5),Nat.zero_le _,hl5,hbo5,by simpa using hO5⟩ ⟨rfl,rfl,rfl,rfl,trivial⟩ ?_
  rintro⟨j,vo2,outs2⟩ w6 ⟨hC6,hj,hl6,hbo6,hO6⟩
  simp only at hj hbo6 hO6 ⊢
  have hDw6:D≤w6.heap.size:=Nat.le_trans hDw hC6.size
  refine Cond.dec (fun g7=>?_) (fun g7=>?_)
  rotate_left
  ·have hjl:j=prow.length:=by omega
   rw[hjl,List.take_of_length_le (by simp)]at hO6
   exact fin w6 vo2 outs2 hC6 hl6 hbo6 (by rw[hrowOut,if_pos hcp];exact hO6)
  have hjl:j<prow.length:=by omega
  obtain⟨a1,ha1,hcj⟩:=(hrow w6 hC6).el _ _ _ rfl j (prow[j]).1.cells (by simp[hjl])
  cases ha1
  have hp6:=hpt w6 hC6 _ (List.getElem_mem hjl)
  have hps:(prow.map (·.2)).take (j+1)=(prow.map (·.2)).take j++[(prow[j]).2]:=by
   rw[List.take_succ_eq_append_getElem (by simpa using hjl)];simp
  have hnl:=(hok _ (List.getElem_mem hjl)).2
  generalize prow[j]=x at *
  obtain⟨⟨k,tg,tx,nv⟩,p⟩:=x
  simp only at hcj hp6 hps hnl
  refine Idx.mk a0 rfl (by omega) (by omega) ?_
  refine Load.here (hcj.all' rfl) ?_
  refine aG.alloc _ [.int .u8 0,.int .i64 0,.string ⟨#[]⟩,.slice none 0 0] jI rfl fun b13 w7 n7=>?_
  refine bA.store b13 0 _ (aR.cells ⟨k,tg,tx,nv⟩) 41 rfl rfl (by kernel_rfl) n7.blk (by simp[aR.cells]) hp6.cells_one fun w8 hU8=>?_
  have n8:=n7.upd hU8
  have hb13:bQ w8 b13 (aR.cells ⟨k,tg,tx,nv⟩) 41:=n8.blk
  have hp8:=hp6.ext n8.ext
  refine Load.here (hb13.cells.one (k:=3) rfl) ?_
  refine aA.mk _ (mJ nv p.nodes _ hp8.nodes) ?_
  rintro vn w9 ⟨hvn,hE9⟩
  obtain⟨on,cn,hvnv,-,-,-,-,-⟩:=hvn.shape
  simp only[List.length_map]at hvnv
  have hb13':=hb13.ext hE9
  have hge13:w6.heap.size≤b13:=by rw[n7.b_eq];exact Nat.le_refl _
  refine bA.store b13 3 _ [vn] 41 rfl (by rw[hvnv];rfl) (by kernel_rfl) hb13' (by simp[aR.cells]) (fun u hu=>by rw[List.mem_singleton.1 hu,hvnv];rfl) fun w10 hU10=>?_
  have hE10:Ext w6 w10:=(n8.ext.trans hE9).upd hU10 hge13
  have hb10':bQ w10 b13 (aR.cells ⟨k,tg,tx,vn⟩) 41:=hU10.blk
  have hvn10:Vec w10 w8.heap.size 50 4 vn (p.nodes.map Nd.cells):=hvn.upd hU10 (fun e=>by
   have:=(hvn.ge e).1
   have h7:=n7.b_eq;have s8:=n8.sz
   omega)
  have hbo10:=hbo6.ext hE10
  have hO10:=hO6.ext hE10
  have hC10:=hC6.trans (.aL hE10)
  have hl10:=(Ch.aL (M:=fun _=>False) hE10).at hl6 (fun h=>h)
  refine Load.here (hbo10.cells.one (k:=0) rfl) ?_
  refine Load.here (hb10'.cells.all' rfl) ?_
  rw[hvnv]at hb10' hvn10 ⊢
  refine aG.mk _ _ (jO _ _ _ _ _ _ _) ?_
  obtain⟨w11,hw11⟩:∃w',w'=w10.alloc (.cells #[.int .u8 k,.int .i64 tg,.string tx,.slice on p.nodes.length cn] 41):=⟨_,rfl⟩
  rw[←hw11]
  have n11:bO w10 w10.heap.size (aR.cells ⟨k,tg,tx,.slice on p.nodes.length cn⟩) 41 w11:=⟨rfl,hw11⟩
  have hDw10:D≤w10.heap.size:=Nat.le_trans hDw hC10.size
  have hO11:=hO10.ext n11.ext
  have hol2:=hO6.len
  rw[List.length_append,List.length_take]at hol2
  refine bD.append fT D (outs2.map aR.cells) [aR.cells ⟨k,tg,tx,.slice on p.nodes.length cn⟩] hO11.vec (aT n11) (by
   intro y hy
   rw[List.mem_singleton.1 hy]
   exact⟨rfl,fun u hu=>by
    simp only[aR.cells,List.mem_cons,List.not_mem_nil,or_false]at hu
    rcases hu with rfl|rfl|rfl|rfl<;>rfl⟩) (by simp;omega) (by simp;omega) (Nat.le_trans hDw10 n11.ext.sz) fun vo3 w12 hva har=>?_
  have hO12:=hO11.push (rn:=⟨k,tg,tx,.slice on p.nodes.length cn⟩) (p:=p) har (by simpa using hva) hp6.kind hp6.target hp6.text hp6.wkind hp6.wtarget hp6.wtext
   ((hvn10.ext n11.ext).dJ (by have:=n8.ext.sz;omega)) hp6.nodes.wf (by omega) (fun g hg e=>by
     have h1:=(hvn10.ge hg).1
     have h2:=(hO6.vec.ge e).2
     have:=n8.ext.sz
     omega) (fun i r hr g hg e=>by
     have h1:=(hvn10.ge hg).1
     have h2:=(hO6.nlt hr e).2
     have:=n8.ext.sz
     omega)
  have hownD:∀b,vo2.ownBlock=some b→Mr bo l D b:=fun b hb=>.inr (.inr (hO6.vec.ge hb).1)
  have hC12:=(hC10.trans (.aL n11.ext)).trans (.cO har hownD)
  have hbo12:bQ w12 bo [vo2] 22:=har.blk (hbo10.ext n11.ext) (fun e=>by have:=(hO6.vec.ge e).1;omega)
  have hl12:w12.heap[l]? = some (.loop { rc with state:=.busy }):=by
   have h11:=(Ch.aL (M:=fun _=>False) n11.ext).at hl10 (fun h=>h)
   exact(har.g.block l (Array.getElem?_eq_some_iff.1 h11).1 (fun e=>by have:=(hO6.vec.ge e.symm).1;omega)).trans h11
  obtain⟨o3,c3,hvo3,-,-,-,-,-⟩:=hO12.vec.shape
  refine bA.store bo 0 _ [vo3] 22 rfl (by rw[hvo3];rfl) (by kernel_rfl) hbo12 (by simp) (fun u hu=>by rw[List.mem_singleton.1 hu,hvo3];rfl) fun w13 hU13=>?_
  have hbo13:bQ w13 bo [vo3] 22:=hU13.blk
  refine Ar.aM (j+1) (by omega) (by omega) ?_
  refine⟨(j+1,vo3,outs2++[⟨k,tg,tx,.slice on p.nodes.length cn⟩]),⟨hC12.trans (.bG hU13 (.inl rfl)),by show j+1≤_;omega,(hU13.other (Ne.symm hbl)).trans hl12,hbo13,?_⟩,by show prow.length-(j+1)<prow.length-j;omega,rfl,rfl,rfl,rfl,trivial⟩
  simp only[hps,←List.append_assoc]
  exact hO12.upd hU13 hbD
 repeat (first|refine gA ?_|refine gB ?_|refine gC ?_)
 refine Load.here (hb10.cells.one (k:=0) ck) ?_
 repeat (first|refine gA ?_|refine gB ?_|refine gC ?_)
 refine aA.mk _ (inserts_con x0.2.kind w5 (by omega) (hglob w5 (hC1.trans (.aL hE5)))) ?_
 rintro v' w' ⟨hv',hw'⟩
 subst hv'
 have hw'':w5=w':=hw'.symm
 subst hw''
 refine gC ?_
 refine gC ?_
 refine aK.yF (fun g3=>?_) (fun g3=>?_)
 ·repeat (first|refine gA ?_|refine gB ?_|refine gC ?_)
  refine Load.here (hb10.cells.one (k:=0) ck) ?_
  repeat (first|refine gA ?_|refine gB ?_|refine gC ?_)
  refine Cond.dH (fun g4=>?_) (fun g4=>?_)
  ·have hcp:gZ x0.2.kind=true:=by simp[gZ,g3,g4]
   refine aH.mk (X:=Nat × Value × List aR) (fun x=>[(8,.pointer (some ⟨bo,0,none⟩)),(68,.slice (some a0) prow.length c),(69,.int .i64 prow.length),(70,.int .i64 x.1)])
    (fun x w'=>Ch (Mr bo l D) w w'∧x.1≤prow.length∧w'.heap[l]? = some (.loop { rc with state:=.busy })∧bQ w' bo [x.2.1] 22∧d9 w' D x.2.1 x.2.2 (ps++((prow.map (·.2)).take x.1))) (fun x=>prow.length-x.1) (0,vo,outs)
    ⟨hC1.trans (.aL hE5),Nat.zero_le _,hl5,hbo5,by simpa using hO5⟩ ⟨rfl,rfl,rfl,rfl,trivial⟩ ?_
   rintro⟨j,vo2,outs2⟩ w6 ⟨hC6,hj,hl6,hbo6,hO6⟩
   simp only at hj hbo6 hO6 ⊢
   have hDw6:D≤w6.heap.size:=Nat.le_trans hDw hC6.size
   refine Cond.dec (fun g7=>?_) (fun g7=>?_)
   rotate_left
   ·have hjl:j=prow.length:=by omega
    rw[hjl,List.take_of_length_le (by simp)]at hO6
    exact fin w6 vo2 outs2 hC6 hl6 hbo6 (by rw[hrowOut,if_pos hcp];exact hO6)
   have hjl:j<prow.length:=by omega
   obtain⟨a1,ha1,hcj⟩:=(hrow w6 hC6).el _ _ _ rfl j (prow[j]).1.cells (by simp[hjl])
   cases ha1
   have hp6:=hpt w6 hC6 _ (List.getElem_mem hjl)
   have hps:(prow.map (·.2)).take (j+1)=(prow.map (·.2)).take j++[(prow[j]).2]:=by
    rw[List.take_succ_eq_append_getElem (by simpa using hjl)];simp
   have hnl:=(hok _ (List.getElem_mem hjl)).2
   generalize prow[j]=x at *
   obtain⟨⟨k,tg,tx,nv⟩,p⟩:=x
   simp only at hcj hp6 hps hnl
   refine Idx.mk a0 rfl (by omega) (by omega) ?_
   refine Load.here (hcj.all' rfl) ?_
   refine aG.alloc _ [.int .u8 0,.int .i64 0,.string ⟨#[]⟩,.slice none 0 0] jI rfl fun b13 w7 n7=>?_
   refine bA.store b13 0 _ (aR.cells ⟨k,tg,tx,nv⟩) 41 rfl rfl (by kernel_rfl) n7.blk (by simp[aR.cells]) hp6.cells_one fun w8 hU8=>?_
   have n8:=n7.upd hU8
   have hb13:bQ w8 b13 (aR.cells ⟨k,tg,tx,nv⟩) 41:=n8.blk
   have hp8:=hp6.ext n8.ext
   refine Load.here (hb13.cells.one (k:=3) rfl) ?_
   refine aA.mk _ (mJ nv p.nodes _ hp8.nodes) ?_
   rintro vn w9 ⟨hvn,hE9⟩
   obtain⟨on,cn,hvnv,-,-,-,-,-⟩:=hvn.shape
   simp only[List.length_map]at hvnv
   have hb13':=hb13.ext hE9
   have hge13:w6.heap.size≤b13:=by rw[n7.b_eq];exact Nat.le_refl _
   refine bA.store b13 3 _ [vn] 41 rfl (by rw[hvnv];rfl) (by kernel_rfl) hb13' (by simp[aR.cells]) (fun u hu=>by rw[List.mem_singleton.1 hu,hvnv];rfl) fun w10 hU10=>?_
   have hE10:Ext w6 w10:=(n8.ext.trans hE9).upd hU10 hge13
   have hb10':bQ w10 b13 (aR.cells ⟨k,tg,tx,vn⟩) 41:=hU10.blk
   have hvn10:Vec w10 w8.heap.size 50 4 vn (p.nodes.map Nd.cells):=hvn.upd hU10 (fun e=>by
    have:=(hvn.ge e).1
    have h7:=n7.b_eq;have s8:=n8.sz
    omega)
   have hbo10:=hbo6.ext hE10
   have hO10:=hO6.ext hE10
   have hC10:=hC6.trans (.aL hE10)
   have hl10:=(Ch.aL (M:=fun _=>False) hE10).at hl6 (fun h=>h)
   refine Load.here (hbo10.cells.one (k:=0) rfl) ?_
   refine Load.here (hb10'.cells.all' rfl) ?_
   rw[hvnv]at hb10' hvn10 ⊢
   refine aG.mk _ _ (jO _ _ _ _ _ _ _) ?_
   obtain⟨w11,hw11⟩:∃w',w'=w10.alloc (.cells #[.int .u8 k,.int .i64 tg,.string tx,.slice on p.nodes.length cn] 41):=⟨_,rfl⟩
   rw[←hw11]
   have n11:bO w10 w10.heap.size (aR.cells ⟨k,tg,tx,.slice on p.nodes.length cn⟩) 41 w11:=⟨rfl,hw11⟩
   have hDw10:D≤w10.heap.size:=Nat.le_trans hDw hC10.size
   have hO11:=hO10.ext n11.ext
   have hol2:=hO6.len
   rw[List.length_append,List.length_take]at hol2
   refine bD.append fT D (outs2.map aR.cells) [aR.cells ⟨k,tg,tx,.slice on p.nodes.length cn⟩] hO11.vec (aT n11) (by
    intro y hy
    rw[List.mem_singleton.1 hy]
    exact⟨rfl,fun u hu=>by
     simp only[aR.cells,List.mem_cons,List.not_mem_nil,or_false]at hu
     rcases hu with rfl|rfl|rfl|rfl<;>rfl⟩) (by simp;omega) (by simp;omega) (Nat.le_trans hDw10 n11.ext.sz) fun vo3 w12 hva har=>?_
   have hO12:=hO11.push (rn:=⟨k,tg,tx,.slice on p.nodes.length cn⟩) (p:=p) har (by simpa using hva) hp6.kind hp6.target hp6.text hp6.wkind hp6.wtarget hp6.wtext
    ((hvn10.ext n11.ext).dJ (by have:=n8.ext.sz;omega)) hp6.nodes.wf (by omega) (fun g hg e=>by
      have h1:=(hvn10.ge hg).1
      have h2:=(hO6.vec.ge e).2
      have:=n8.ext.sz
      omega) (fun i r hr g hg e=>by
      have h1:=(hvn10.ge hg).1
      have h2:=(hO6.nlt hr e).2
      have:=n8.ext.sz
      omega)
   have hownD:∀b,vo2.ownBlock=some b→Mr bo l D b:=fun b hb=>.inr (.inr (hO6.vec.ge hb).1)
   have hC12:=(hC10.trans (.aL n11.ext)).trans (.cO har hownD)
   have hbo12:bQ w12 bo [vo2] 22:=har.blk (hbo10.ext n11.ext) (fun e=>by have:=(hO6.vec.ge e).1;omega)
   have hl12:w12.heap[l]? = some (.loop { rc with state:=.busy }):=by
    have h11:=(Ch.aL (M:=fun _=>False) n11.ext).at hl10 (fun h=>h)
    exact(har.g.block l (Array.getElem?_eq_some_iff.1 h11).1 (fun e=>by have:=(hO6.vec.ge e.symm).1;omega)).trans h11
   obtain⟨o3,c3,hvo3,-,-,-,-,-⟩:=hO12.vec.shape
   refine bA.store bo 0 _ [vo3] 22 rfl (by rw[hvo3];rfl) (by kernel_rfl) hbo12 (by simp) (fun u hu=>by rw[List.mem_singleton.1 hu,hvo3];rfl) fun w13 hU13=>?_
   have hbo13:bQ w13 bo [vo3] 22:=hU13.blk
   refine Ar.aM (j+1) (by omega) (by omega) ?_
   refine⟨(j+1,vo3,outs2++[⟨k,tg,tx,.slice on p.nodes.length cn⟩]),⟨hC12.trans (.bG hU13 (.inl rfl)),by show j+1≤_;omega,(hU13.other (Ne.symm hbl)).trans hl12,hbo13,?_⟩,by show prow.length-(j+1)<prow.length-j;omega,rfl,rfl,rfl,rfl,trivial⟩
   simp only[hps,←List.append_assoc]
   exact hO12.upd hU13 hbD
  ·have hcp:gZ x0.2.kind=false:=by simp[gZ,g1,g2,g4]
   refine aH.mk (X:=Nat × Value × Value) (fun x=>[(8,.pointer (some ⟨bo,0,none⟩)),(10,.pointer (some ⟨b10,0,none⟩)),(14,x.2.1),(15,x.2.2),(83,.slice (some a0) prow.length c),(84,.int .i64 prow.length),(85,.int .i64 x.1)])
    (fun x w'=>Ext w5 w'∧x.1≤prow.length∧Vec w' w5.heap.size 50 4 x.2.1 ((fA ((prow.map (·.2)).take x.1)).map Nd.cells)∧Vec w' w5.heap.size 50 4 x.2.2 ((fH [] ((prow.map (·.2)).take x.1)).map Nd.cells)∧
     (x.2.1.ownBlock=none∨x.2.1.ownBlock≠x.2.2.ownBlock)∧NdOk (x.1*1000000) (fA ((prow.map (·.2)).take x.1))∧NdOk (x.1*1000000) (fH [] ((prow.map (·.2)).take x.1))∧(∀y∈fH [] ((prow.map (·.2)).take x.1),y.parent≤2000000000)) (fun x=>prow.length-x.1) (0,.slice none 0 0,.slice none 0 0)
    ⟨Ext.refl _,Nat.zero_le _,Vec.nil _ _ _ _,Vec.nil _ _ _ _,.inl rfl,NdOk.nil _,NdOk.nil _,fun y hy=>by cases hy⟩ ⟨rfl,rfl,rfl,rfl,rfl,rfl,rfl,trivial⟩ ?_
   rintro⟨j,va,vr⟩ w6 ⟨hE6,hj,hva,hvr,hne6,hoA,hoR,hoP⟩
   simp only at hj hva hvr hne6 hoA hoR hoP ⊢
   have hC6:=(hC1.trans (.aL hE5)).trans (.aL hE6)
   obtain⟨oa,ca,hvae,-,-,-,-,-⟩:=hva.shape
   obtain⟨orr,crr,hvre,-,-,-,-,-⟩:=hvr.shape
   simp only[List.length_map]at hvae hvre
   refine Cond.dec (fun g7=>?_) (fun g7=>?_)
   ·have hjl:j<prow.length:=by omega
    obtain⟨a1,ha1,hcj⟩:=(hrow w6 hC6).el _ _ _ rfl j (prow[j]).1.cells (by simp[hjl])
    cases ha1
    have hp6:=hpt w6 hC6 _ (List.getElem_mem hjl)
    have hps:(prow.map (·.2)).take (j+1)=(prow.map (·.2)).take j++[(prow[j]).2]:=by
     rw[List.take_succ_eq_append_getElem (by simpa using hjl)];simp
    have hnl:=hok _ (List.getElem_mem hjl)
    generalize prow[j]=x at *
    obtain⟨⟨k,tg,tx,nv⟩,p⟩:=x
    simp only at hcj hp6 hps hnl
    have hsb:=uV hnl.1
    have hsl:=kL p.nodes
    refine Idx.mk a0 rfl (by omega) (by omega) ?_
    refine Load.here (hcj.all' rfl) ?_
    refine aG.alloc _ [.int .u8 0,.int .i64 0,.string ⟨#[]⟩,.slice none 0 0] jI rfl fun b17 w7 n7=>?_
    refine bA.store b17 0 _ (aR.cells ⟨k,tg,tx,nv⟩) 41 rfl rfl (by kernel_rfl) n7.blk (by simp[aR.cells]) hp6.cells_one fun w8 hU8=>?_
    have n8:=n7.upd hU8
    have hb17:bQ w8 b17 (aR.cells ⟨k,tg,tx,nv⟩) 41:=n8.blk
    have hp8:=hp6.ext n8.ext
    have hC8:=hC6.trans (.aL n8.ext)
    refine Load.here (hb17.cells.one (k:=3) rfl) ?_
    refine aA.mk _ (xH nv p.nodes _ hp8.nodes (hglob _ hC8)) ?_
    rintro vt w9 ⟨va2,vr2,rfl,hA2,hR2,hRv2,hE9⟩
    have hE9':=hE6.trans (n8.ext.trans hE9)
    have hva9:=hva.ext (n8.ext.trans hE9)
    have hvr9:=hvr.ext (n8.ext.trans hE9)
    have hsz9:=hE9'.sz
    have hbl1:=hoA.len
    have hbl2:=hoR.len
    have hs8:=n8.ext.sz
    have hs9:=hE9.sz
    refine bD.append bI w5.heap.size _ ((bL p.nodes).map Nd.cells) hva9 hA2.sl (by
     intro y hy
     obtain⟨z,_,rfl⟩:=List.mem_map.1 hy
     exact⟨rfl,Nd.cells_one _⟩) (by simp only[List.length_map];omega) (by simp only[List.length_map];omega) hsz9 fun va3 w10 hva3 har=>?_
    have hne9:vr.ownBlock=none∨vr.ownBlock≠va.ownBlock:=by
     rcases hne6 with h|h
     ·cases hvo:vr.ownBlock with
      | none=>exact .inl rfl
      | some g=>exact .inr (by rw[h];simp)
     ·exact .inr (Ne.symm h)
    have hvr10:=har.vec hvr9 hne9
    have hE10:Ext w5 w10:=Below.trans hE9' (har.below hsz9 fun b hb=>(hva9.ge hb).1)
    have hRv10:=har.vec hRv2 (by
     cases hvo:vr2.ownBlock with
     | none=>exact .inl rfl
     | some g=>exact .inr (fun e=>by
       have h1:=(hRv2.ge hvo).1
       have h2:=(hva.ge e.symm).2
       omega))
    have hR10:aJ w10 vr2 (bC p.nodes):=hRv10.nodes hR2.wf hR2.len
    rw[hvre]at hvr10 ⊢
    refine aA.mk _ (vK vr2 (bC p.nodes) _ _ hR10 (by omega) (fun y hy=>by have:=hsb.2 y hy;omega)) ?_
    rintro vm w11 ⟨hvm,hE11⟩
    have hs10:=har.sz
    have hvr11:=hvr10.ext hE11
    have hE11':=hE10.trans hE11
    refine bD.append bI w5.heap.size _ _ hvr11 hvm.sl (by
     intro y hy
     obtain⟨z,_,rfl⟩:=List.mem_map.1 hy
     exact⟨rfl,Nd.cells_one _⟩) (by simp only[List.length_map];omega) (by simp only[List.length_map];omega) hE11'.sz fun vr3 w12 hvr3 har2=>?_
    rw[←hvre]at hvr11 har2
    have ha3:∀g,va3.ownBlock=some g→vr.ownBlock≠some g:=fun g hg e=>by
     rcases har.fresh g hg with h1|h1
     ·rcases hne6 with h|h
      ·rw[h]at h1;cases h1
      ·exact h (h1.trans e.symm)
     ·have:=(hvr.ge e).2;omega
    have hva12:=har2.vec (hva3.ext hE11) (by
     cases hvo:va3.ownBlock with
     | none=>exact .inl rfl
     | some g=>exact .inr (fun e=>ha3 g hvo e.symm))
    have hE12:Ext w5 w12:=Below.trans hE11' (har2.below hE11'.sz fun b hb=>(hvr11.ge hb).1)
    refine Ar.aM (j+1) (by omega) (by omega) ?_
    refine⟨(j+1,va3,vr3),⟨hE12,by show j+1≤_;omega,?_,?_,?_,?_,?_,?_⟩,by show prow.length-(j+1)<prow.length-j;omega,rfl,rfl,rfl,rfl,rfl,rfl,rfl,trivial⟩
    ·simp only[hps,jB,List.map_append];exact hva12
    ·simp only[hps,iJ,List.map_append];exact hvr3
    ·cases hvo:va3.ownBlock with
     | none=>exact .inl rfl
     | some g=>
       refine .inr (fun e=>?_)
       replace e:some g=vr3.ownBlock:=e
       rcases har2.fresh g e.symm with h1|h1
       ·exact ha3 g hvo h1
       ·have h2:=(hva3.ge hvo).2
        have:=hE11.sz
        omega
    ·simp only[hps,jB]
     refine⟨by rw[List.length_append];omega,fun y hy=>?_⟩
     rcases List.mem_append.1 hy with h|h
     ·exact hoA.wf y h
     ·exact hA2.wf y h
    ·simp only[hps,iJ]
     refine⟨by rw[List.length_append,List.length_map];omega,fun y hy=>?_⟩
     rcases List.mem_append.1 hy with h|h
     ·exact hoR.wf y h
     ·obtain⟨z,hz,rfl⟩:=List.mem_map.1 h
      exact uR (hR2.wf z hz) (fun h0=>by have:=hsb.2 z hz;omega)
    ·simp only[hps,iJ]
     intro y hy
     rcases List.mem_append.1 hy with h|h
     ·exact hoP y h
     ·obtain⟨z,hz,rfl⟩:=List.mem_map.1 h
      have:=hsb.2 z hz
      unfold aS
      split
      ·show z.parent+_≤_;omega
      ·omega
   have hjl:j=prow.length:=by omega
   rw[hjl,List.take_of_length_le (by simp)]at hva hvr hvae hvre hoA hoR hoP
   have hb10':=hb10.ext hE6
   have hp06:=hpt w6 hC6 x0 (by rw[hprow];exact List.mem_cons_self)
   have hE16:=hE5.trans hE6
   refine Load.here (hb10'.cells.one (k:=0) ck) ?_
   have hlA:=hoA.len
   have hlR:=hoR.len
   have hpl':prow.length*1000000≤1000000000:=by omega
   refine Cond.join (X:=Value × List Nd) (fun x=>[(8,.pointer (some ⟨bo,0,none⟩)),(10,.pointer (some ⟨b10,0,none⟩))])
    (fun x w'=>Ext w1 w'∧bQ w' b10 (aR.cells ⟨x0.1.kind,x0.1.target,x0.1.text,x.1⟩) 41∧Vec w' w5.heap.size 50 4 x.1 (x.2.map Nd.cells)∧(∀y∈x.2,y.Wf)∧x.2.length≤2000000000∧x.2=(if x0.2.kind=10 then x0.2.nodes else bJ (prow.map (·.2)))) (fun g=>?_) (fun g=>?_) ?_
   ·have g8:=of_decide_eq_true g
    refine Load.here (hb10'.cells.one (k:=3) rfl) ?_
    refine aA.mk _ (mJ x0.1.nodes x0.2.nodes _ hp06.nodes) ?_
    rintro vn w7 ⟨hvn,hE7⟩
    obtain⟨on,cn,hvne,-,-,-,-,-⟩:=hvn.shape
    refine bA.store b10 3 _ [vn] 41 rfl (by rw[hvne];rfl) (by kernel_rfl) (hb10'.ext hE7) (by simp[aR.cells]) (fun u hu=>by rw[List.mem_singleton.1 hu,hvne];rfl) fun w8 hU8=>?_
    have hs6:=hE6.sz
    refine⟨(vn,x0.2.nodes),⟨(hE16.trans hE7).upd hU8 hge10,hU8.blk,(hvn.upd hU8 (fun e=>by have:=(hvn.ge e).1;omega)).dJ hs6,hp06.nodes.wf,by show x0.2.nodes.length≤_;omega,by rw[if_pos g8]⟩,rfl,rfl,trivial⟩
   ·have g8:=of_decide_eq_false g
    have hnR:aJ w6 vr (fH [] (prow.map (·.2))):=hvr.nodes hoR.wf (by omega)
    rw[hvae]at hva ⊢
    refine aA.mk _ (vK vr _ _ _ hnR (by omega) (fun y hy=>by have:=hoP y hy;omega)) ?_
    rintro vm w7 ⟨hvm,hE7⟩
    have hva7:=hva.ext hE7
    have hE57:=hE6.trans hE7
    refine bD.append bI w5.heap.size _ _ hva7 hvm.sl (by
     intro y hy
     obtain⟨z,_,rfl⟩:=List.mem_map.1 hy
     exact⟨rfl,Nd.cells_one _⟩) (by simp only[List.length_map];omega) (by simp only[List.length_map];omega) hE57.sz fun vj w8 hvj har=>?_
    have hE58:Ext w5 w8:=Below.trans hE57 (har.below hE57.sz fun b hb=>(hva7.ge hb).1)
    obtain⟨on,cn,hvje,-,-,-,-,-⟩:=hvj.shape
    refine bA.store b10 3 _ [vj] 41 rfl (by rw[hvje];rfl) (by kernel_rfl) (hb10.ext hE58) (by simp[aR.cells]) (fun u hu=>by rw[List.mem_singleton.1 hu,hvje];rfl) fun w9 hU9=>?_
    refine⟨(vj,bJ (prow.map (·.2))),⟨(hE5.trans hE58).upd hU9 hge10,hU9.blk,?_,?_,?_,by rw[if_neg g8]⟩,rfl,rfl,trivial⟩
    ·have:=hvj.upd hU9 (fun e=>by have:=(hvj.ge e).1;omega)
     simpa [bJ] using this
    ·intro y hy
     rcases List.mem_append.1 hy with h|h
     ·exact hoA.wf y h
     ·obtain⟨z,hz,rfl⟩:=List.mem_map.1 h
      exact uR (hoR.wf z hz) (fun h0=>by have:=hoP z hz;omega)
    ·show(bJ _).length≤_
     simp only[bJ,List.length_append,List.length_map];omega
   rintro⟨vn,nl⟩ w7 ⟨hE7,hb107,hvn,hnw,hnl7,hnle⟩
   simp only at hb107 hvn hnw hnl7 hnle ⊢
   have hbo7:=hbo1.ext hE7
   have hO7:=hO1.ext hE7
   have hl7:=(Ch.aL (M:=fun _=>False) hE7).at hl1 (fun h=>h)
   have hC7:=hC1.trans (.aL hE7)
   obtain⟨on,cn,hvne,-,-,-,-,-⟩:=hvn.shape
   simp only[List.length_map]at hvne
   refine Load.here (hbo7.cells.one (k:=0) rfl) ?_
   refine Load.here (hb107.cells.all' rfl) ?_
   rw[hvne]at hb107 hvn ⊢
   refine aG.mk _ _ (jO _ _ _ _ _ _ _) ?_
   obtain⟨w8,hw8⟩:∃w',w'=w7.alloc (.cells #[.int .u8 x0.1.kind,.int .i64 x0.1.target,.string x0.1.text,.slice on nl.length cn] 41):=⟨_,rfl⟩
   rw[←hw8]
   have n8:bO w7 w7.heap.size (aR.cells ⟨x0.1.kind,x0.1.target,x0.1.text,.slice on nl.length cn⟩) 41 w8:=⟨rfl,hw8⟩
   have hDw7:D≤w7.heap.size:=Nat.le_trans hDw hC7.size
   have hO8:=hO7.ext n8.ext
   have hol2:=hO.len
   refine bD.append fT D (outs.map aR.cells) [aR.cells ⟨x0.1.kind,x0.1.target,x0.1.text,.slice on nl.length cn⟩] hO8.vec (aT n8) (by
    intro y hy
    rw[List.mem_singleton.1 hy]
    exact⟨rfl,fun u hu=>by
     simp only[aR.cells,List.mem_cons,List.not_mem_nil,or_false]at hu
     rcases hu with rfl|rfl|rfl|rfl<;>rfl⟩) (by simp;omega) (by simp;omega) (Nat.le_trans hDw7 n8.ext.sz) fun vo3 w9 hva9 har=>?_
   have hO9:=hO8.push (rn:=⟨x0.1.kind,x0.1.target,x0.1.text,.slice on nl.length cn⟩) (p:={ x0.2 with nodes:=nl }) har (by simpa using hva9) hp0.kind hp0.target hp0.text hp0.wkind hp0.wtarget hp0.wtext
    ((hvn.ext n8.ext).dJ hDw5) hnw (by show nl.length≤_;omega) (fun g hg e=>by
      have h1:=(hvn.ge hg).1
      have h2:=(hO5.vec.ge e).2
      omega) (fun i r hr g hg e=>by
      have h1:=(hvn.ge hg).1
      have h2:=(hO5.nlt hr e).2
      omega)
   have hownD:∀b,vo.ownBlock=some b→Mr bo l D b:=fun b hb=>.inr (.inr (hO.vec.ge hb).1)
   have hC9:=(hC7.trans (.aL n8.ext)).trans (.cO har hownD)
   have hbo9:bQ w9 bo [vo] 22:=har.blk (hbo7.ext n8.ext) (fun e=>by have:=(hO.vec.ge e).1;omega)
   have hl9:w9.heap[l]? = some (.loop { rc with state:=.busy }):=by
    have h11:=(Ch.aL (M:=fun _=>False) n8.ext).at hl7 (fun h=>h)
    exact(har.g.block l (Array.getElem?_eq_some_iff.1 h11).1 (fun e=>by have:=(hO.vec.ge e.symm).1;omega)).trans h11
   obtain⟨o3,c3,hvo3,-,-,-,-,-⟩:=hO9.vec.shape
   refine bA.store bo 0 _ [vo3] 22 rfl (by rw[hvo3];rfl) (by kernel_rfl) hbo9 (by simp) (fun u hu=>by rw[List.mem_singleton.1 hu,hvo3];rfl) fun w10 hU10=>?_
   have hbo10:bQ w10 bo [vo3] 22:=hU10.blk
   refine fin w10 vo3 (outs++[⟨x0.1.kind,x0.1.target,x0.1.text,.slice on nl.length cn⟩]) (hC9.trans (.bG hU10 (.inl rfl))) ((hU10.other (Ne.symm hbl)).trans hl9) hbo10 ?_
   have hre:dP (prow.map (·.2))=[{ x0.2 with nodes:=nl }]:=by
    rw[hrowOut,hcp,hnle,if_neg (by decide)]
    by_cases h10:x0.2.kind=10
    ·rw[if_pos h10,if_pos h10]
    ·rw[if_neg h10,if_neg h10]
   rw[hre]
   exact hO9.upd hU10 hbD
 ·repeat (first|refine gA ?_|refine gB ?_|refine gC ?_)
  refine Cond.no ?_
  have hcp:gZ x0.2.kind=false:=by simp[gZ,g1,g2,g3]
  refine aH.mk (X:=Nat × Value × Value) (fun x=>[(8,.pointer (some ⟨bo,0,none⟩)),(10,.pointer (some ⟨b10,0,none⟩)),(14,x.2.1),(15,x.2.2),(83,.slice (some a0) prow.length c),(84,.int .i64 prow.length),(85,.int .i64 x.1)])
   (fun x w'=>Ext w5 w'∧x.1≤prow.length∧Vec w' w5.heap.size 50 4 x.2.1 ((fA ((prow.map (·.2)).take x.1)).map Nd.cells)∧Vec w' w5.heap.size 50 4 x.2.2 ((fH [] ((prow.map (·.2)).take x.1)).map Nd.cells)∧
    (x.2.1.ownBlock=none∨x.2.1.ownBlock≠x.2.2.ownBlock)∧NdOk (x.1*1000000) (fA ((prow.map (·.2)).take x.1))∧NdOk (x.1*1000000) (fH [] ((prow.map (·.2)).take x.1))∧(∀y∈fH [] ((prow.map (·.2)).take x.1),y.parent≤2000000000)) (fun x=>prow.length-x.1) (0,.slice none 0 0,.slice none 0 0)
   ⟨Ext.refl _,Nat.zero_le _,Vec.nil _ _ _ _,Vec.nil _ _ _ _,.inl rfl,NdOk.nil _,NdOk.nil _,fun y hy=>by cases hy⟩ ⟨rfl,rfl,rfl,rfl,rfl,rfl,rfl,trivial⟩ ?_
  rintro⟨j,va,vr⟩ w6 ⟨hE6,hj,hva,hvr,hne6,hoA,hoR,hoP⟩
  simp only at hj hva hvr hne6 hoA hoR hoP ⊢
  have hC6:=(hC1.trans (.aL hE5)).trans (.aL hE6)
  obtain⟨oa,ca,hvae,-,-,-,-,-⟩:=hva.shape
  obtain⟨orr,crr,hvre,-,-,-,-,-⟩:=hvr.shape
  simp only[List.length_map]at hvae hvre
  refine Cond.dec (fun g7=>?_) (fun g7=>?_)
  ·have hjl:j<prow.length:=by omega
   obtain⟨a1,ha1,hcj⟩:=(hrow w6 hC6).el _ _ _ rfl j (prow[j]).1.cells (by simp[hjl])
   cases ha1
   have hp6:=hpt w6 hC6 _ (List.getElem_mem hjl)
   have hps:(prow.map (·.2)).take (j+1)=(prow.map (·.2)).take j++[(prow[j]).2]:=by
    rw[List.take_succ_eq_append_getElem (by simpa using hjl)];simp
   have hnl:=hok _ (List.getElem_mem hjl)
   generalize prow[j]=x at *
   obtain⟨⟨k,tg,tx,nv⟩,p⟩:=x
   simp only at hcj hp6 hps hnl
   have hsb:=uV hnl.1
   have hsl:=kL p.nodes
   refine Idx.mk a0 rfl (by omega) (by omega) ?_
   refine Load.here (hcj.all' rfl) ?_
   refine aG.alloc _ [.int .u8 0,.int .i64 0,.string ⟨#[]⟩,.slice none 0 0] jI rfl fun b17 w7 n7=>?_
   refine bA.store b17 0 _ (aR.cells ⟨k,tg,tx,nv⟩) 41 rfl rfl (by kernel_rfl) n7.blk (by simp[aR.cells]) hp6.cells_one fun w8 hU8=>?_
   have n8:=n7.upd hU8
   have hb17:bQ w8 b17 (aR.cells ⟨k,tg,tx,nv⟩) 41:=n8.blk
   have hp8:=hp6.ext n8.ext
   have hC8:=hC6.trans (.aL n8.ext)
   refine Load.here (hb17.cells.one (k:=3) rfl) ?_
   refine aA.mk _ (xH nv p.nodes _ hp8.nodes (hglob _ hC8)) ?_
   rintro vt w9 ⟨va2,vr2,rfl,hA2,hR2,hRv2,hE9⟩
   have hE9':=hE6.trans (n8.ext.trans hE9)
   have hva9:=hva.ext (n8.ext.trans hE9)
   have hvr9:=hvr.ext (n8.ext.trans hE9)
   have hsz9:=hE9'.sz
   have hbl1:=hoA.len
   have hbl2:=hoR.len
   have hs8:=n8.ext.sz
   have hs9:=hE9.sz
   refine bD.append bI w5.heap.size _ ((bL p.nodes).map Nd.cells) hva9 hA2.sl (by
    intro y hy
    obtain⟨z,_,rfl⟩:=List.mem_map.1 hy
    exact⟨rfl,Nd.cells_one _⟩) (by simp only[List.length_map];omega) (by simp only[List.length_map];omega) hsz9 fun va3 w10 hva3 har=>?_
   have hne9:vr.ownBlock=none∨vr.ownBlock≠va.ownBlock:=by
    rcases hne6 with h|h
    ·cases hvo:vr.ownBlock with
     | none=>exact .inl rfl
     | some g=>exact .inr (by rw[h];simp)
    ·exact .inr (Ne.symm h)
   have hvr10:=har.vec hvr9 hne9
   have hE10:Ext w5 w10:=Below.trans hE9' (har.below hsz9 fun b hb=>(hva9.ge hb).1)
   have hRv10:=har.vec hRv2 (by
    cases hvo:vr2.ownBlock with
    | none=>exact .inl rfl
    | some g=>exact .inr (fun e=>by
      have h1:=(hRv2.ge hvo).1
      have h2:=(hva.ge e.symm).2
      omega))
   have hR10:aJ w10 vr2 (bC p.nodes):=hRv10.nodes hR2.wf hR2.len
   rw[hvre]at hvr10 ⊢
   refine aA.mk _ (vK vr2 (bC p.nodes) _ _ hR10 (by omega) (fun y hy=>by have:=hsb.2 y hy;omega)) ?_
   rintro vm w11 ⟨hvm,hE11⟩
   have hs10:=har.sz
   have hvr11:=hvr10.ext hE11
   have hE11':=hE10.trans hE11
   refine bD.append bI w5.heap.size _ _ hvr11 hvm.sl (by
    intro y hy
    obtain⟨z,_,rfl⟩:=List.mem_map.1 hy
    exact⟨rfl,Nd.cells_one _⟩) (by simp only[List.length_map];omega) (by simp only[List.length_map];omega) hE11'.sz fun vr3 w12 hvr3 har2=>?_
   rw[←hvre]at hvr11 har2
   have ha3:∀g,va3.ownBlock=some g→vr.ownBlock≠some g:=fun g hg e=>by
    rcases har.fresh g hg with h1|h1
    ·rcases hne6 with h|h
     ·rw[h]at h1;cases h1
     ·exact h (h1.trans e.symm)
    ·have:=(hvr.ge e).2;omega
   have hva12:=har2.vec (hva3.ext hE11) (by
    cases hvo:va3.ownBlock with
    | none=>exact .inl rfl
    | some g=>exact .inr (fun e=>ha3 g hvo e.symm))
   have hE12:Ext w5 w12:=Below.trans hE11' (har2.below hE11'.sz fun b hb=>(hvr11.ge hb).1)
   refine Ar.aM (j+1) (by omega) (by omega) ?_
   refine⟨(j+1,va3,vr3),⟨hE12,by show j+1≤_;omega,?_,?_,?_,?_,?_,?_⟩,by show prow.length-(j+1)<prow.length-j;omega,rfl,rfl,rfl,rfl,rfl,rfl,rfl,trivial⟩
   ·simp only[hps,jB,List.map_append];exact hva12
   ·simp only[hps,iJ,List.map_append];exact hvr3
   ·cases hvo:va3.ownBlock with
    | none=>exact .inl rfl
    | some g=>
      refine .inr (fun e=>?_)
      replace e:some g=vr3.ownBlock:=e
      rcases har2.fresh g e.symm with h1|h1
      ·exact ha3 g hvo h1
      ·have h2:=(hva3.ge hvo).2
       have:=hE11.sz
       omega
   ·simp only[hps,jB]
    refine⟨by rw[List.length_append];omega,fun y hy=>?_⟩
    rcases List.mem_append.1 hy with h|h
    ·exact hoA.wf y h
    ·exact hA2.wf y h
   ·simp only[hps,iJ]
    refine⟨by rw[List.length_append,List.length_map];omega,fun y hy=>?_⟩
    rcases List.mem_append.1 hy with h|h
    ·exact hoR.wf y h
    ·obtain⟨z,hz,rfl⟩:=List.mem_map.1 h
     exact uR (hR2.wf z hz) (fun h0=>by have:=hsb.2 z hz;omega)
   ·simp only[hps,iJ]
    intro y hy
    rcases List.mem_append.1 hy with h|h
    ·exact hoP y h
    ·obtain⟨z,hz,rfl⟩:=List.mem_map.1 h
     have:=hsb.2 z hz
     unfold aS
     split
     ·show z.parent+_≤_;omega
     ·omega
  have hjl:j=prow.length:=by omega
  rw[hjl,List.take_of_length_le (by simp)]at hva hvr hvae hvre hoA hoR hoP
  have hb10':=hb10.ext hE6
  have hp06:=hpt w6 hC6 x0 (by rw[hprow];exact List.mem_cons_self)
  have hE16:=hE5.trans hE6
  refine Load.here (hb10'.cells.one (k:=0) ck) ?_
  have hlA:=hoA.len
  have hlR:=hoR.len
  have hpl':prow.length*1000000≤1000000000:=by omega
  refine Cond.join (X:=Value × List Nd) (fun x=>[(8,.pointer (some ⟨bo,0,none⟩)),(10,.pointer (some ⟨b10,0,none⟩))])
   (fun x w'=>Ext w1 w'∧bQ w' b10 (aR.cells ⟨x0.1.kind,x0.1.target,x0.1.text,x.1⟩) 41∧Vec w' w5.heap.size 50 4 x.1 (x.2.map Nd.cells)∧(∀y∈x.2,y.Wf)∧x.2.length≤2000000000∧x.2=(if x0.2.kind=10 then x0.2.nodes else bJ (prow.map (·.2)))) (fun g=>?_) (fun g=>?_) ?_
  ·have g8:=of_decide_eq_true g
   refine Load.here (hb10'.cells.one (k:=3) rfl) ?_
   refine aA.mk _ (mJ x0.1.nodes x0.2.nodes _ hp06.nodes) ?_
   rintro vn w7 ⟨hvn,hE7⟩
   obtain⟨on,cn,hvne,-,-,-,-,-⟩:=hvn.shape
   refine bA.store b10 3 _ [vn] 41 rfl (by rw[hvne];rfl) (by kernel_rfl) (hb10'.ext hE7) (by simp[aR.cells]) (fun u hu=>by rw[List.mem_singleton.1 hu,hvne];rfl) fun w8 hU8=>?_
   have hs6:=hE6.sz
   refine⟨(vn,x0.2.nodes),⟨(hE16.trans hE7).upd hU8 hge10,hU8.blk,(hvn.upd hU8 (fun e=>by have:=(hvn.ge e).1;omega)).dJ hs6,hp06.nodes.wf,by show x0.2.nodes.length≤_;omega,by rw[if_pos g8]⟩,rfl,rfl,trivial⟩
  ·have g8:=of_decide_eq_false g
   have hnR:aJ w6 vr (fH [] (prow.map (·.2))):=hvr.nodes hoR.wf (by omega)
   rw[hvae]at hva ⊢
   refine aA.mk _ (vK vr _ _ _ hnR (by omega) (fun y hy=>by have:=hoP y hy;omega)) ?_
   rintro vm w7 ⟨hvm,hE7⟩
   have hva7:=hva.ext hE7
   have hE57:=hE6.trans hE7
   refine bD.append bI w5.heap.size _ _ hva7 hvm.sl (by
    intro y hy
    obtain⟨z,_,rfl⟩:=List.mem_map.1 hy
    exact⟨rfl,Nd.cells_one _⟩) (by simp only[List.length_map];omega) (by simp only[List.length_map];omega) hE57.sz fun vj w8 hvj har=>?_
   have hE58:Ext w5 w8:=Below.trans hE57 (har.below hE57.sz fun b hb=>(hva7.ge hb).1)
   obtain⟨on,cn,hvje,-,-,-,-,-⟩:=hvj.shape
   refine bA.store b10 3 _ [vj] 41 rfl (by rw[hvje];rfl) (by kernel_rfl) (hb10.ext hE58) (by simp[aR.cells]) (fun u hu=>by rw[List.mem_singleton.1 hu,hvje];rfl) fun w9 hU9=>?_
   refine⟨(vj,bJ (prow.map (·.2))),⟨(hE5.trans hE58).upd hU9 hge10,hU9.blk,?_,?_,?_,by rw[if_neg g8]⟩,rfl,rfl,trivial⟩
   ·have:=hvj.upd hU9 (fun e=>by have:=(hvj.ge e).1;omega)
    simpa [bJ] using this
   ·intro y hy
    rcases List.mem_append.1 hy with h|h
    ·exact hoA.wf y h
    ·obtain⟨z,hz,rfl⟩:=List.mem_map.1 h
     exact uR (hoR.wf z hz) (fun h0=>by have:=hoP z hz;omega)
   ·show(bJ _).length≤_
    simp only[bJ,List.length_append,List.length_map];omega
  rintro⟨vn,nl⟩ w7 ⟨hE7,hb107,hvn,hnw,hnl7,hnle⟩
  simp only at hb107 hvn hnw hnl7 hnle ⊢
  have hbo7:=hbo1.ext hE7
  have hO7:=hO1.ext hE7
  have hl7:=(Ch.aL (M:=fun _=>False) hE7).at hl1 (fun h=>h)
  have hC7:=hC1.trans (.aL hE7)
  obtain⟨on,cn,hvne,-,-,-,-,-⟩:=hvn.shape
  simp only[List.length_map]at hvne
  refine Load.here (hbo7.cells.one (k:=0) rfl) ?_
  refine Load.here (hb107.cells.all' rfl) ?_
  rw[hvne]at hb107 hvn ⊢
  refine aG.mk _ _ (jO _ _ _ _ _ _ _) ?_
  obtain⟨w8,hw8⟩:∃w',w'=w7.alloc (.cells #[.int .u8 x0.1.kind,.int .i64 x0.1.target,.string x0.1.text,.slice on nl.length cn] 41):=⟨_,rfl⟩
  rw[←hw8]
  have n8:bO w7 w7.heap.size (aR.cells ⟨x0.1.kind,x0.1.target,x0.1.text,.slice on nl.length cn⟩) 41 w8:=⟨rfl,hw8⟩
  have hDw7:D≤w7.heap.size:=Nat.le_trans hDw hC7.size
  have hO8:=hO7.ext n8.ext
  have hol2:=hO.len
  refine bD.append fT D (outs.map aR.cells) [aR.cells ⟨x0.1.kind,x0.1.target,x0.1.text,.slice on nl.length cn⟩] hO8.vec (aT n8) (by
   intro y hy
   rw[List.mem_singleton.1 hy]
   exact⟨rfl,fun u hu=>by
    simp only[aR.cells,List.mem_cons,List.not_mem_nil,or_false]at hu
    rcases hu with rfl|rfl|rfl|rfl<;>rfl⟩) (by simp;omega) (by simp;omega) (Nat.le_trans hDw7 n8.ext.sz) fun vo3 w9 hva9 har=>?_
  have hO9:=hO8.push (rn:=⟨x0.1.kind,x0.1.target,x0.1.text,.slice on nl.length cn⟩) (p:={ x0.2 with nodes:=nl }) har (by simpa using hva9) hp0.kind hp0.target hp0.text hp0.wkind hp0.wtarget hp0.wtext
   ((hvn.ext n8.ext).dJ hDw5) hnw (by show nl.length≤_;omega) (fun g hg e=>by
     have h1:=(hvn.ge hg).1
     have h2:=(hO5.vec.ge e).2
     omega) (fun i r hr g hg e=>by
     have h1:=(hvn.ge hg).1
     have h2:=(hO5.nlt hr e).2
     omega)
  have hownD:∀b,vo.ownBlock=some b→Mr bo l D b:=fun b hb=>.inr (.inr (hO.vec.ge hb).1)
  have hC9:=(hC7.trans (.aL n8.ext)).trans (.cO har hownD)
  have hbo9:bQ w9 bo [vo] 22:=har.blk (hbo7.ext n8.ext) (fun e=>by have:=(hO.vec.ge e).1;omega)
  have hl9:w9.heap[l]? = some (.loop { rc with state:=.busy }):=by
   have h11:=(Ch.aL (M:=fun _=>False) n8.ext).at hl7 (fun h=>h)
   exact(har.g.block l (Array.getElem?_eq_some_iff.1 h11).1 (fun e=>by have:=(hO.vec.ge e.symm).1;omega)).trans h11
  obtain⟨o3,c3,hvo3,-,-,-,-,-⟩:=hO9.vec.shape
  refine bA.store bo 0 _ [vo3] 22 rfl (by rw[hvo3];rfl) (by kernel_rfl) hbo9 (by simp) (fun u hu=>by rw[List.mem_singleton.1 hu,hvo3];rfl) fun w10 hU10=>?_
  have hbo10:bQ w10 bo [vo3] 22:=hU10.blk
  refine fin w10 vo3 (outs++[⟨x0.1.kind,x0.1.target,x0.1.text,.slice on nl.length cn⟩]) (hC9.trans (.bG hU10 (.inl rfl))) ((hU10.other (Ne.symm hbl)).trans hl9) hbo10 ?_
  have hre:dP (prow.map (·.2))=[{ x0.2 with nodes:=nl }]:=by
   rw[hrowOut,hcp,hnle,if_neg (by decide)]
   by_cases h10:x0.2.kind=10
   ·rw[if_pos h10,if_pos h10]
   ·rw[if_neg h10,if_neg h10]
  rw[hre]
  exact hO9.upd hU10 hbD
theorem spine1{P:Program}{T:wG}(hT:iV P T){n:Nat}{x y:Code}{Q:Exit→Act→World→Prop}{env:Env}{w:World}{a:Act}(hH:Holds n a env)
  (h:vcC P T n x (fun e env' w'=>match e with
   | .normal=>∀a',Holds n a' env'→y.wp P Q a' w'
   | e=>∀a',Holds n a' env'→Q e a' w') env w):(Code.seq x y).wp P Q a w:=by
 refine wp_seq (vcC_sound hT x hH h fun e env' w' h a ha=>?_)
 cases e with
 | normal=>exact h a ha
 | _=>exact h a ha
theorem holds_args{n:Nat}(args:Array Value)(hle:args.size≤n):Holds n { tmps:=args++Array.replicate (n-args.size) undef,defers:=[] } (wV args.toList 0):=by
 refine⟨by simp;omega,rfl,fun k v hk=>?_⟩
 obtain⟨j,rfl,hj⟩:=wY _ _ _ _ hk
 have hj':args[j]? = some v:=by simpa using hj
 have hlt:j<args.size:=(Array.getElem?_eq_some_iff.1 hj').1
 simp only[Nat.zero_add]
 rw[Array.getElem?_append_left hlt]
 exact hj'
theorem leave_plain{P:Program}{T:wG}(hT:iV P T){fn:Func}{n:Nat}{a:Act}{env:Env}{w:World}{Φ:Value→World→Prop}(hH:Holds n a env)(h:FinVC T fn env w Φ) :
  LeavesInM Fence.wide 0 P fn a.tmps (Ret Φ) a.defers .returning w:=by
 obtain⟨v,hr,hΦ⟩:=tX hT hH h
 rw[hH.defers]
 exact⟨v,hr,v,rfl,hΦ⟩
theorem insK_congr{α:Type}{k1 k2:α→Int}(x:α):∀(l:List α),k1 x=k2 x→(∀y∈l,k1 y=k2 y)→uK k1 x l=uK k2 x l
 | [],_,_=>rfl
 | y::r,hx,h=>by
   simp only[uK,hx,h y List.mem_cons_self]
   rw[insK_congr x r hx (fun z hz=>h z (List.mem_cons_of_mem _ hz))]
theorem oI{α:Type}{k:α→Int}{l:List α}{x:α}(h:x∈eH k l):x∈l:=(lH l).symm.mem h
theorem isort_keys{α:Type}{k1 k2:α→Int}:∀(l:List α),(∀y∈l,k1 y=k2 y)→eH k1 l=eH k2 l
 | [],_=>rfl
 | x::r,h=>by
   have hr:=isort_keys r (fun z hz=>h z (List.mem_cons_of_mem _ hz))
   simp only[eH,hr]
   exact insK_congr x _ (h x List.mem_cons_self) (fun y hy=>h y (List.mem_cons_of_mem _ (oI hy)))
theorem insK_len{α:Type}{k:α→Int}(x:α):∀l:List α,(uK k x l).length=l.length+1
 | []=>rfl
 | y::r=>by
   unfold uK
   split
   ·rfl
   ·simp[insK_len x r]
theorem oH{α:Type}{k:α→Int}:∀l:List α,(eH k l).length=l.length
 | []=>rfl
 | x::r=>by simp[eH,insK_len,oH r]
theorem takeWhile_congr{α:Type}{p q:α→Bool}:∀(l:List α),(∀y∈l,p y=q y)→l.takeWhile p=l.takeWhile q∧l.dropWhile p=l.dropWhile q
 | [],_=>⟨rfl,rfl⟩
 | x::r,h=>by
   have ih:=takeWhile_congr r (fun z hz=>h z (List.mem_cons_of_mem _ hz))
   simp only[List.takeWhile_cons,List.dropWhile_cons,h x List.mem_cons_self,ih.1,ih.2]
   exact⟨trivial,trivial⟩
theorem yS{α:Type}{s1 s2:α→α→Bool}:∀(n:Nat) (l:List α),(∀x∈l,∀y∈l,s1 x y=s2 x y)→iR s1 n l=iR s2 n l
 | 0,_,_=>rfl
 | n+1,[],_=>rfl
 | n+1,x::r,h=>by
   have ht:=takeWhile_congr r (fun z hz=>h x List.mem_cons_self z (List.mem_cons_of_mem _ hz))
   simp only[iR,ht.1,ht.2]
   rw[yS n _ (fun a ha b hb=>h a (List.mem_cons_of_mem _ ((List.dropWhile_sublist _).mem ha)) b (List.mem_cons_of_mem _ ((List.dropWhile_sublist _).mem hb)))]
theorem qG{α:Type}{same:α→α→Bool}:∀(n:Nat) (l:List α),l.length≤n→(iR same n l).flatten=l
 | 0,l,h=>by
   have:l=[]:=List.eq_nil_of_length_eq_zero (by omega)
   subst this;rfl
 | n+1,[],_=>rfl
 | n+1,x::r,h=>by
   have:=lU (same x) r
   simp only[List.length_cons]at h
   simp only[iR,List.flatten_cons]
   rw[qG n _ (by omega)]
   simp[List.takeWhile_append_dropWhile]
theorem rowOut_len:∀row:List Pt,(dP row).length≤row.length
 | []=>Nat.le_refl _
 | p::r=>by
   simp only[dP]
   split
   ·exact Nat.le_refl _
   ·split<;>simp
theorem outs_len:∀(L:List (List Pt)) (k:Nat),((L.take k).map dP).flatten.length≤L.flatten.length
 | [],_=>by simp
 | x::r,0=>by simp
 | x::r,k+1=>by
   have:=outs_len r k
   have:=rowOut_len x
   simp only[List.take_succ_cons,List.map_cons,List.flatten_cons,List.length_append]
   omega
theorem Ch.mono{M N:Nat→Prop}{w w':World}(h:Ch M w w')(hM:∀k,M k→N k):Ch N w w':=⟨h.os,h.tape,h.output,h.size,fun k hk hn=>h.block k hk (fun hm=>hn (hM k hm))⟩
theorem d9.mono{w:World}{D D':Nat}{vo:Value}{outs:List aR}{ps:List Pt}(h:d9 w D vo outs ps)(hD:D'≤D):d9 w D' vo outs ps:=
 ⟨h.vec.dJ hD,h.len,fun i r p h1 h2=>by
  obtain⟨a,b,c,d,e,f⟩:=h.el i r p h1 h2
  exact⟨a,b,c.dJ hD,d,e,f⟩,h.dif⟩
theorem d9.nil(w:World)(D:Nat):d9 w D (.slice none 0 0) [] []:=⟨Vec.nil _ _ _ _,rfl,(fun i r p h=>by cases h),fun i j r q h=>by cases h⟩
theorem _root_.Go.V.Ext.cZ{a b c:World}{B:Nat}(h:Ext a b)(k:Below B b c)(hB:a.heap.size≤B):Ext a c:=Below.trans h (Below.mono k hB)
theorem _root_.Go.V.Holds.bare{n:Nat}{a:Act}{env:Env}(h:Holds n a env):Holds n { tmps:=a.tmps,defers:=[] } env:=⟨h.size,rfl,h.at_⟩
theorem zero22:fJ Tryz.prog 22 (.slice none 0 0):=by unfold fJ;kernel_rfl
theorem size22:jM Tryz.prog 22 1=true:=by kernel_rfl
theorem agg22:xR Tryz.prog 22 false=true:=by kernel_rfl
noncomputable def f10c:Code:=Tryz.f10.body.getD .skip
noncomputable def f10t (k:Nat):Code:=Nat.rec f10c (fun _ c=>csnd c) k
def kz(x:aR × Pt):Int:=kp x.2
def samez(x y:aR × Pt):Bool:=fI x.2 y.2
set_option maxHeartbeats 3200000 in
theorem p8(v:Value)(ps:List Pt)(w:World)(hl:PartsAt w v ps)(hG:jV w)(hlen:ps.length≤1000)(hnl:∀p∈ps,p.nodes.length≤1000000) :
  bV Tryz.prog 10 #[v] w (fun v' w'=>∃outs,d9 w' w.heap.size v' outs (dA ps)∧Ext w w'):=by
 have hl0:=hl
 obtain⟨⟨rs,hsl,hpts⟩,hll⟩:=hl
 obtain⟨lo,lc,hv,l1,l2,l3,l4⟩:=hl0.open_
 have hrl:rs.length=ps.length:=hpts.1
 have hrp:∀x∈rs.zip ps,gM w x.1 x.2:=fun x hx=>by
  obtain⟨i,hi,rfl⟩:=List.mem_iff_getElem.1 hx
  rw[List.length_zip]at hi
  have h1:i<rs.length:=by omega
  have h2:i<ps.length:=by omega
  rw[List.getElem_zip]
  exact hpts.2 i _ _ (List.getElem?_eq_getElem h1) (List.getElem?_eq_getElem h2)
 have hrwf:∀r∈rs,RWf r:=fun r hr=>by
  obtain⟨i,hi,rfl⟩:=List.mem_iff_getElem.1 hr
  exact(hpts.2 i _ _ (List.getElem?_eq_getElem hi) (List.getElem?_eq_getElem (by omega:i<ps.length))).wf
 have hml:maxLen=9223372036854775807:=rfl
 refine⟨aV rfl,callsIn_wide.1 (callsIn_of_wp_marks (F:=Fence.wide) (n:=0) Tryz.func10 (c:=f10c) rfl trivial (wpIn_wide.2 ?_) rfl)⟩
 have hH0:Holds 125 { tmps:=#[v]++Array.replicate (125-(#[v]:Array Value).size) undef,defers:=[] } (wV (#[v]:Array Value).toList 0):=holds_args #[v] (by simp)
 subst hv
 refine(spine1 aB hH0 ?_:(Code.seq (cfst (f10t 0)) (f10t 1)).wp _ _ _ _)
 refine fun a1 hH1=>?_
 refine(spine1 aB hH1 ?_:(Code.seq (cfst (f10t 1)) (f10t 2)).wp _ _ _ _)
 refine aH.mk (X:=Nat) (fun i=>[(0,.slice lo ps.length lc),(21,.slice lo ps.length lc),(22,.int .i64 ps.length),(23,.int .i64 i)])
  (fun i w'=>Ext w w'∧i≤ps.length∧(ps.take i).all (fun p=>aU p.nodes)=true) (fun i=>ps.length-i) 0 ⟨Ext.refl _,Nat.zero_le _,rfl⟩ ⟨rfl,rfl,rfl,rfl,trivial⟩ ?_
 rintro i w2 ⟨hE2,hi,hall⟩
 refine Cond.dec (fun g1=>?_) (fun g1=>?_)
 ·have hil:i<ps.length:=by omega
  obtain⟨a,r,ha,hc,hp⟩:=l4 _ hE2 i hil
  have hsn:(ps.take (i+1)).all (fun p=>aU p.nodes)=aU ps[i].nodes:=by
   rw[List.take_succ_eq_append_getElem hil,List.all_append,hall];simp
  have hbad:aU ps[i].nodes=false→dA ps=[]:=fun h=>by
   have:ps.all (fun p=>aU p.nodes)=false:=Bool.eq_false_iff.2 fun ht=>by
    rw[List.all_eq_true]at ht
    have:=ht _ (List.getElem_mem hil)
    rw[h]at this;cases this
   simp[dA,this]
  generalize ps[i]=p at *
  refine Idx.mk a ha (by omega) (by omega) ?_
  refine Load.here (hc.all' rfl) ?_
  refine aG.alloc _ [.int .u8 0,.int .i64 0,.string ⟨#[]⟩,.slice none 0 0] jI rfl fun b w3 n3=>?_
  refine bA.store b 0 _ r.cells 41 rfl rfl (by kernel_rfl) n3.blk (by simp[aR.cells]) hp.cells_one fun w4 hU4=>?_
  have n4:=n3.upd hU4
  have hcb:bQ w4 b r.cells 41:=n4.blk
  have hE4:=hE2.trans n4.ext
  refine Load.here (hcb.cells.one (k:=3) rfl) ?_
  refine aA.mk _ (split_con r.nodes p.nodes _ (hp.ext n4.ext).nodes (hG.ext hE4)) ?_
  rintro vt w5 ⟨va,vr,rfl,-,-,hE5⟩
  refine Cond.neg (fun g2=>?_) (fun g2=>?_)
  ·refine fun a' ha'=>?_
   refine leave_plain (T:=tab) (Φ:=fun v' w'=>∃outs,d9 w' w.heap.size v' outs (dA ps)∧Ext w w') aB ha' ?_
   exact⟨[],by rw[hbad g2];exact d9.nil _ _,hE4.trans hE5⟩
  ·refine Ar.aM (i+1) (by omega) (by omega) ?_
   exact⟨i+1,⟨hE4.trans hE5,by omega,by rw[hsn,g2]⟩,by omega,rfl,rfl,rfl,rfl,trivial⟩
 have hil:i=ps.length:=by omega
 rw[hil,List.take_length]at hall
 have hallp:∀p∈ps,aU p.nodes=true:=fun p hp=>by
  rw[List.all_eq_true]at hall;exact hall p hp
 refine fun a2 hH2=>?_
 refine(spine1 aB hH2 ?_:(Code.seq (cfst (f10t 2)) (f10t 3)).wp _ _ _ _)
 refine aA.mk _ (CloneP_con _ (rs.map aR.cells) w2 (hsl.ext hE2) (by simp;omega) (fun y hy=>by
  obtain⟨r,hr,rfl⟩:=List.mem_map.1 hy
  refine⟨rfl,fun u hu=>?_⟩
  have:=(hrwf r hr).one
  simp only[aR.cells,List.mem_cons,List.not_mem_nil,or_false]at hu
  rcases hu with rfl|rfl|rfl|rfl
  ·rfl
  ·rfl
  ·rfl
  ·exact this)) ?_
 rintro vs0 w3 ⟨hvs,hE3⟩
 obtain⟨so,sc,hvse,-,-,-,-,-⟩:=hvs.shape
 simp only[List.length_map]at hvse
 have hE03:=hE2.trans hE3
 rw[hvse]at hvs ⊢
 refine fun a3 hH3=>?_
 refine(spine1 aB hH3 ?_:(Code.seq (cfst (f10t 3)) (f10t 4)).wp _ _ _ _)
 refine aA.mk _ (SortStable_con w2.heap.size so rs.length sc (by omega) rs w3 hvs hrwf hE3.sz) ?_
 rintro vu w4 ⟨hvs4,hB4⟩
 have hE4:Ext w w4:=hE03.cZ hB4 hE2.sz
 refine fun a4 hH4=>?_
 refine(spine1 aB hH4 ?_:(Code.seq (cfst (f10t 4)) (f10t 5)).wp _ _ _ _)
 refine aG.alloc _ [.slice none 0 0] zero22 rfl fun bo w5 n5=>?_
 refine fun a5 hH5=>?_
 refine(wp_seq ?_:(Code.seq (cfst (f10t 5)) (f10t 6)).wp _ _ _ _)
 refine(spine1 aB hH5 ?_:(Code.seq (cfst (cfst (f10t 5))) (csnd (cfst (f10t 5)))).wp _ _ _ _)
 refine aA.mk _ (alike_con _ _ rfl) ?_
 rintro vf w6 ⟨bx,rfl,n6⟩
 refine fun a6 hH6=>?_
 have s5:=n5.sz
 have s6:=n6.sz
 have eb5:=n5.b_eq
 have eb6:=n6.b_eq
 have hsz4:w.heap.size≤w4.heap.size:=hE4.sz
 obtain⟨l,hl⟩:∃l,l=w6.heap.size+1:=⟨_,rfl⟩
 have hE6:Ext w w6:=(hE4.trans n5.ext).trans n6.ext
 obtain⟨sp,hsp⟩:∃sp,sp=eH kz (rs.zip ps):=⟨_,rfl⟩
 have hspm:∀x∈sp,x∈rs.zip ps:=fun x hx=>oI (hsp▸hx)
 have hspl:sp.length=ps.length:=by
  have h1:(eH kz (rs.zip ps)).map (·.2)=eH kp ((rs.zip ps).map (·.2)):=(vH (fun x:aR × Pt=>x.2) kp kz (fun _=>rfl) _).symm
  have h2:(rs.zip ps).map (·.2)=ps:=List.map_snd_zip (by omega)
  rw[h2,←hsp]at h1
  have h3:=congrArg List.length h1
  rw[List.length_map]at h3
  rw[h3]
  exact oH ps
 have hs1:sp.map (·.1)=eH kx rs:=by
  have h2:(rs.zip ps).map (·.1)=rs:=List.map_fst_zip (by omega)
  have h3:eH kz (rs.zip ps)=eH (fun x:aR × Pt=>kx x.1) (rs.zip ps):=isort_keys _ (fun x hx=>by
   have hp:=hrp x hx
   simp only[kz,kp,kx,hp.kind,hp.target])
  rw[hsp,h3,←vH (fun x:aR × Pt=>x.1) kx _ (fun _=>rfl),h2]
 have hs2:sp.map (·.2)=eH kp ps:=by
  have h2:(rs.zip ps).map (·.2)=ps:=List.map_snd_zip (by omega)
  rw[hsp,←vH (fun x:aR × Pt=>x.2) kp kz (fun _=>rfl),h2]
 obtain⟨pr,hpr⟩:∃pr,pr=qF samez sp:=⟨_,rfl⟩
 have hr2:qF fI (eH kp ps)=pr.map (List.map (·.2)):=by
  rw[hpr,←hs2];exact rowsG_map (fun x:aR × Pt=>x.2) fI samez (fun _ _=>rfl) sp
 have hr1:rowsOf (eH kx rs)=pr.map (List.map (·.1)):=by
  rw[rowsOf_eq,←hs1,rowsG_map (fun x:aR × Pt=>x.1) kQ (fun x y=>kQ x.1 y.1) (fun _ _=>rfl) sp,hpr]
  congr 1
  exact yS _ _ (fun x hx y hy=>by
   have h1:=hrp x (hspm x hx)
   have h2:=hrp y (hspm y hy)
   simp only[samez,fI,kQ,h1.kind,h1.target,h2.kind,h2.target])
 have hmerge:dA ps=((pr.map (List.map (·.2))).map dP).flatten:=by
  unfold dA
  rw[hall,if_pos rfl,hr2]
 have hprl:∀row∈pr,row.length≤1000∧row≠[]∧∀x∈row,x∈sp:=fun row h=>by
  rw[hpr]at h
  have:=sV h
  have h2:=pQ h
  exact⟨by omega,h2.2,h2.1⟩
 have hflat:(pr.map (List.map (·.2))).flatten.length=ps.length:=by
  have:(qF samez sp).flatten=sp:=qG _ _ (Nat.le_refl _)
  rw[←List.map_flatten,List.length_map,hpr,this,hspl]
 have hev:a6.eval (.tmp 42)=.func (.func 85) #[] #[.pointer (some ⟨bx,0,none⟩)]:=hH6.ev rfl
 refine(wp_block (id:=2) (c:=mergeRG) ?_:(Code.block 2 mergeRG).wp _ _ _ _)
 refine((wpIn_wide (n:=0)).1 (wpIn_rangeFunc (F:=Fence.wide) (n:=0) (g:=.tmp 42) (ps:=#[43]) (assign:=rgA mergeRG) (body:=rgB mergeRG) ?_):(Code.rangeFunc (.tmp 42) #[43] (rgA mergeRG) (rgB mergeRG)).wp _ _ _ _)
 intro fn _
 obtain⟨rc,hrc⟩:∃rc:Loop,rc={ state:=.ready,pending:=none,fn:=fn,tmps:=a6.tmps,params:=#[43],assign:=rgA mergeRG,body:=rgB mergeRG,defers:=w6.heap.size }:=⟨_,rfl⟩
 obtain⟨wS,hwS⟩:∃wS,wS=(w6.alloc (.deferred (some []))).alloc (.loop rc):=⟨_,rfl⟩
 have hrun:=run_enterLoop_outer (P:=Tryz.prog) (w:=w6) fn a6.tmps #[43] (rgA mergeRG) (rgB mergeRG)
 rw[←hrc,←hwS,←hl]at hrun
 refine⟨l,_,wS,{ target:=.fn (.func 85) #[.pointer (some ⟨bx,0,none⟩)],args:=#[]++#[.func (.yield l) #[] #[]] },wS,85,#[.func (.yield l) #[] #[],.pointer (some ⟨bx,0,none⟩)],wS,hrun,?_,fun _ _=>trivial,?_,(fun h=>by cases h),?_⟩
 ·have hm:Array.map a6.eval #[Operand.const (.func (.yield l) #[] #[])]=#[.func (.yield l) #[] #[]]:=by simp[Act.eval]
  simp only[resolve,rangeCall,hev,Deferred.ofValue,Sem.run_pure,hm]
 ·simp only[invoke]
  rw[show(#[]++#[Value.func (Fn.yield l) #[] #[]]++#[Value.pointer (some ⟨bx,0,none⟩)]:Array Value)=#[.func (.yield l) #[] #[],.pointer (some ⟨bx,0,none⟩)]from rfl,yX (aV rfl)]
 have hszS:wS.heap.size=l+1:=by rw[hwS,hl];simp
 have hES:Ext w6 wS:=by
  rw[hwS]
  exact((Below.refl _ w6).alloc (Nat.le_refl _) _).alloc (by simp) _
 have hlS:wS.heap[l]? = some (.loop rc):=by
  rw[hwS]
  have:=World.alloc_heap_new (w6.alloc (.deferred (some []))) (.loop rc)
  rw[World.size_alloc,←hl]at this
  exact this
 have hdS:wS.heap[w6.heap.size]? = some (.deferred (some [])):=by
  rw[hwS]
  exact(Below.heap_alloc _ _ _ (by simp)).trans (World.alloc_heap_new w6 _)
 have hbo6:bQ w6 bo [.slice none 0 0] 22:=n5.blk.ext n6.ext
 have hbxS:bQ wS bx [.slice so rs.length sc] 22:=n6.blk.ext hES
 have hvsS:Vec wS w2.heap.size 41 4 (.slice so rs.length sc) ((eH kx rs).map aR.cells):=((hvs4.ext n5.ext).ext n6.ext).ext hES
 have hvsb:∀g,(Value.slice so rs.length sc).ownBlock=some g→g<bo:=fun g hg=>by
  have:=(hvs4.ge hg).2
  omega
 let Mb:Nat→Prop:=fun k=>k=bx∨Mr bo l (l+1) k
 have hMb:∀k,Mb k→bo≤k:=fun k hk=>by
  rcases hk with rfl|rfl|rfl|hk<;>omega
 let J:List (List aR)→World→Prop:=fun pre w'=>Ch Mb wS w'∧w'.heap[l]? = some (.loop rc)∧∃vo outs,bQ w' bo [vo] 22∧d9 w' (l+1) vo outs (((pr.map (List.map (·.2))).take pre.length).map dP).flatten
 have hSl:∀w',Ch Mb wS w'→eO w' (.slice so rs.length sc) 4 ((eH kx rs).map aR.cells):=fun w' hC=>(hC.vec hvsS (fun g hg hm=>by have:=hvsb g hg;have:=hMb g hm;omega)).sl
 have hJL:∀pre w',J pre w'→eO w' (.slice so rs.length sc) 4 ((eH kx rs).map aR.cells):=fun pre w' hJ=>hSl w' hJ.1
 have hJE:∀w',Ch Mb wS w'→Ext w w':=fun w' hC=>(hE6.trans hES).cZ (hC.below (B:=bo) (by omega) hMb) (by omega)
 have hcon:=alike1_con l bx (eH kx rs) (.slice so rs.length sc) J (by rw[oH];omega) hJL
  (fun pre w' cs w'' ⟨h1,h2,vo,outs,h3,h4⟩ hU=>⟨h1.trans (.bG hU (.inl rfl)),(hU.other (by omega)).trans h2,vo,outs,hU.aF h3 (by omega),h4.upd hU (by omega)⟩)
  (fun pre w' ⟨h1,h2,vo,outs,h3,h4⟩=>⟨h1.trans (.aL (Ext.drew w')),h2,vo,outs,h3,h4.ext (Ext.drew w')⟩)
  (fun pre w' v row rest hJ hrow hslv hrows=>by
   obtain⟨h1,h2,vo,outs,h3,h4⟩:=hJ
   rw[hr1]at hrows
   have hk:pre.length<pr.length:=by
    have:=congrArg List.length hrows
    simp at this
    omega
   obtain⟨prow,hprow⟩:∃prow,prow=pr[pre.length]:=⟨_,rfl⟩
   have hprm:prow∈pr:=by rw[hprow];exact List.getElem_mem hk
   have hrow1:prow.map (·.1)=row:=by
    have:=congrArg (fun L=>L[pre.length]?) hrows
    simp[hk]at this
    rw[hprow];exact this
   have hpm:=hprl prow hprm
   obtain⟨fn',tm',as',bd',hy,hR⟩:=mergeRound (l+1) bo l w' rc fn a6.tmps w6.heap.size hrc h2 (by omega) (by omega) (by omega) (by have:=h1.size;omega)
    ((hH6.sub (e:=[(8,.pointer (some ⟨bo,0,none⟩))]) ⟨rfl,trivial⟩).bare) v prow hpm.2.1 hpm.1
    (fun w'' hC=>by
     rw[hrow1]
     exact hslv w'' (hSl w'' (h1.trans (hC.mono (fun k hk=>.inr hk)))))
    (fun w'' hC x hx=>(hrp x (hspm x (hpm.2.2 x hx))).ext (hJE w'' (h1.trans (hC.mono (fun k hk=>.inr hk)))))
    (fun x hx=>by
     have hxz:=hspm x (hpm.2.2 x hx)
     have:x.2∈ps:=(List.of_mem_zip (a:=x.1) (b:=x.2) hxz).2
     exact⟨hallp _ this,hnl _ this⟩)
    (fun w'' hC=>hG.ext (hJE w'' (h1.trans (hC.mono (fun k hk=>.inr hk)))))
    vo outs _ h3 h4 (by
     have:=outs_len (pr.map (List.map (·.2))) pre.length
     omega)
   refine .mk fn' tm' as' bd' hy fun m R hk'=>hR m R fun v' w'' ⟨e1,e2,e3,vo',outs',e4,e5⟩=>hk' v' w'' ⟨e1,⟨h1.trans (e2.mono (fun k hk=>.inr hk)),e3,vo',outs',e4,?_⟩,e2.block bx (by have:=h1.size;omega) (fun h=>by rcases h with h|h|h<;>omega)⟩
   have hps:((pr.map (List.map (·.2))).take (pre++[row]).length)=(pr.map (List.map (·.2))).take pre.length++[prow.map (·.2)]:=by
    rw[List.length_append]
    simp only[List.length_cons,List.length_nil]
    rw[List.take_succ_eq_append_getElem (by simpa using hk)]
    simp[hprow]
   rw[hps]
   simpa using e5)
  wS ⟨Ch.refl _ _,hlS,.slice none 0 0,[],hbo6.ext hES,by simpa using d9.nil _ _⟩ hbxS
 refine callsIn_wide.2 (hcon.calls.mono ?_)
 rintro e w7 ⟨v7,rfl,rfl,hJ7⟩
 obtain⟨c1,c2,vo,outs,c3,c4⟩:=hJ7
 have hfin:(((pr.map (List.map (·.2))).take (rowsOf (eH kx rs)).length).map dP).flatten=dA ps:=by
  rw[hmerge,hr1,List.length_map,List.take_of_length_le (by simp)]
 rw[hfin]at c4
 have hE7:=hJE w7 c1
 refine⟨none,w7.putObj l (.loop { rc with state:=.exhausted }),?_,?_⟩
 ·have:=run_endLoop (P:=Tryz.prog) c2 (by rw[hrc];intro h;cases h)
  rw[this,hrc]
 have hput:Ch (fun k=>k=l) w7 (w7.putObj l (.loop { rc with state:=.exhausted })):=.xC w7 _ rfl
 have hd7:w7.heap[w6.heap.size]? = some (.deferred (some [])):=c1.at hdS (fun h=>by rcases h with h|h|h|h<;>omega)
 obtain⟨w8,hw8⟩:∃w8,w8=w7.putObj l (.loop { rc with state:=.exhausted }):=⟨_,rfl⟩
 rw[←hw8]at hput ⊢
 have hbo8:=hput.blk c3 (by omega)
 have hO8:=c4.ch hput (fun k e=>by omega)
 have hd8:=hput.at hd7 (by omega)
 have hE8:Ext w w8:=hE7.cZ (hput.below (B:=bo) (by have:=c1.size;omega) (fun k e=>by omega)) (by omega)
 refine(wp_seq ?_:(Code.seq (cfst (f10t 6)) .ret).wp _ _ _ _)
 refine(wp_region_list ?_:(Code.region 34 _ false).wp _ _ _ _)
 have hev8:a6.eval (.tmp 8)=.pointer (some ⟨bo,0,none⟩):=hH6.ev rfl
 have hrd:Reads w8 ⟨bo,0,none⟩ 1 false vo:=by
  have:=hbo8.cells.one (k:=0) (v:=vo) rfl
  rwa [add_zero]at this
 obtain⟨a7,ha7⟩:∃a7:Act,a7={ a6 with defers:=[{ target:=.collected w6.heap.size,args:=#[] }]++a6.defers }:=⟨_,rfl⟩
 have hev7:a7.eval (.tmp 8)=.pointer (some ⟨bo,0,none⟩):=by rw[ha7];exact hev8
 have hH7:=hH6.put 124 (by decide) vo
 have hH8:=hH7.put 2 (by decide) vo
 have hev124:(a7.put (some 124) vo).eval (.tmp 124)=vo:=by
  rw[ha7]
  exact hH7.ev (x:=.tmp 124) rfl
 rw[←ha7]
 unfold wpList
 rw[if_pos (by simp[Region.wanted])]
 refine .inl (fM (v:=vo) (w':=w8) ?_ ?_)
 ·simp only[execOp,Instr.loadAt,hev7,Instr.sureAddr,Sem.run_bind,Sem.run_pure,Result.andThen_ok,l8 size22 agg22 hrd]
 unfold wpList
 rw[if_pos (by simp[Region.wanted])]
 refine .inl (fM (v:=vo) (w':=w8) ?_ ?_)
 ·simp only[execOp,hev124,Sem.run_bind,Sem.run_pure,Result.andThen_ok]
 unfold wpList
 refine wp_ret ?_
 have hput9:Ch (fun k=>k=w6.heap.size) w8 (w8.putObj w6.heap.size (.deferred none)):=.xC w8 _ rfl
 have hE9:Ext w (w8.putObj w6.heap.size (.deferred none)):=hE8.cZ (hput9.below (B:=bo) (by have:=hE8.sz;have:=c1.size;have:=hput.size;omega) (fun k e=>by omega)) (by omega)
 have hd7':(a7.put (some 124) vo).put (some 2) vo={ tmps:=((a6.put (some 124) vo).put (some 2) vo).tmps,defers:=[{ target:=.collected w6.heap.size,args:=#[] }] }:=by
  rw[ha7,hH6.defers]
  rfl
 show LeavesInM Fence.wide 0 Tryz.prog Tryz.f10 ((a7.put (some 124) vo).put (some 2) vo).tmps _ ((a7.put (some 124) vo).put (some 2) vo).defers .returning w8
 rw[hd7']
 refine⟨by simp,.inl ⟨w6.heap.size,_,rfl,run_takeDeferred hd8,?_⟩⟩
 have hO9:=hO8.ch hput9 (fun k e=>by omega)
 have:=leave_plain (T:=tab) (fn:=Tryz.f10) (Φ:=fun v' w'=>∃outs,d9 w' w.heap.size v' outs (dA ps)∧Ext w w') aB hH8.bare (w:=w8.putObj w6.heap.size (.deferred none)) ⟨outs,hO9.mono (by omega),hE9⟩
 exact this
end Go.Proofs.YtelffdgcikceaaaGreatDoor
end
